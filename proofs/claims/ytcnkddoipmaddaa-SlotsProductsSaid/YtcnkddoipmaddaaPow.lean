/- Contracts: the products and powers of residues, in the program and in the reference. -/
import Derived.Test.YtcnkddoipmaddaaBase
import Derived.Test.YtcnkddoipmaddaaRet
import Derived.Laws.BitsAllLaws
namespace Go.Proofs.Ytcnkddoipmaddaa
open Go.RowKit

theorem mul_lt_int32 {x y : Nat} (h1 : x ≤ 4294967295) (h2 : y ≤ 4294967295) : 0 ≤ (x : Int) * (y : Int) ∧ (x : Int) * (y : Int) ≤ 18446744065119617025 := by
  refine ⟨Int.mul_nonneg (by omega) (by omega), ?_⟩
  have := Nat.mul_le_mul h1 h2
  have e : (x : Int) * (y : Int) = ((x * y : Nat) : Int) := by simp
  rw [e]
  omega

theorem mulm_any (a b n p : Nat) (w : World) (ha : a ≤ 4294967295) (hb : b ≤ 4294967295) (hn : 0 < n) (hn2 : n ≤ 4294967295) (hc : w.cell? ⟨p, 0, none⟩ = some (.int .u64 (n : Int))) :
    Calls Try.prog 63 #[.int .u32 a, .int .u32 b, .pointer (some ⟨p, 0, none⟩)] w (RetP w (.int .u32 ((a * b % n : Nat) : Int))) := by
  obtain ⟨h1, h2⟩ := mul_lt_int32 ha hb
  have h3 : 0 ≤ (a : Int) * (b : Int) % (n : Int) := Int.emod_nonneg _ (by omega)
  have h4 : (a : Int) * (b : Int) % (n : Int) < (n : Int) := Int.emod_lt_of_pos _ (by omega)
  go_enter Try.func63, Try.ntmps63
  go_wp2
  go_ret
  exact ⟨by simp, rfl⟩

theorem rtimes_any (a b n : Nat) (w : World) (ha : a ≤ 4294967295) (hb : b ≤ 4294967295) (hn : 0 < n) (hn2 : n ≤ 4294967295) :
    Calls Try.prog 69 #[.int .u32 a, .int .u32 b, .int .u32 n] w (RetP w (.int .u32 ((a * b % n : Nat) : Int))) := by
  obtain ⟨h1, h2⟩ := mul_lt_int32 ha hb
  have h3 : 0 ≤ (a : Int) * (b : Int) % (n : Int) := Int.emod_nonneg _ (by omega)
  have h4 : (a : Int) * (b : Int) % (n : Int) < (n : Int) := Int.emod_lt_of_pos _ (by omega)
  go_enter Try.func69, Try.ntmps69
  go_wp2
  go_ret
  exact ⟨by simp, rfl⟩

/-- what holds at the head of a power's loop -/
def PwR (A E n : Nat) (a e out : Value) : Prop := ∃ a' e' o : Nat, a = .int .u32 (a' : Int) ∧ e = .int .u64 (e' : Int) ∧ out = .int .u32 (o : Int) ∧ a' ≤ 4294967295 ∧ e' ≤ E ∧ o < n ∧ o * a' ^ e' % n = A ^ E % n

theorem pwr_step {n o a e X : Nat} (h : o * a ^ e % n = X) : (if e % 2 = 1 then o * a % n else o) * (a * a % n) ^ (e / 2) % n = X := by
  have h2 : (a * a % n) ^ (e / 2) % n = (a * a) ^ (e / 2) % n := by rw [← Nat.pow_mod]
  have h3 : (a * a) ^ (e / 2) = a ^ (2 * (e / 2)) := by rw [Nat.pow_mul, Nat.pow_two]
  have h4 : ∀ y, y * (a * a % n) ^ (e / 2) % n = y * a ^ (2 * (e / 2)) % n := fun y => by rw [Nat.mul_mod, h2, ← Nat.mul_mod, h3]
  rw [h4, ← h]
  split
  · rename_i ho
    rw [Nat.mod_mul_mod, Nat.mul_assoc]
    congr 2
    conv => rhs; rw [show e = 2 * (e / 2) + 1 by omega, Nat.pow_succ]
    rw [Nat.mul_comm]
  · congr 3
    omega

set_option maxHeartbeats 1000000 in
theorem rpower_any (a e n : Nat) (w : World) (ha : a ≤ 4294967295) (he : e < 18446744073709551616) (hn : 2 ≤ n) (hn2 : n ≤ 4294967295) :
    Calls Try.prog 68 #[.int .u32 a, .int .u64 e, .int .u32 n] w (RetP w (.int .u32 ((a ^ e % n : Nat) : Int))) := by
  go_enter Try.func68, Try.ntmps68
  go_wp2
  go_loopw [0, 1, 7] (fun x y o wr => PwR a e n x y o ∧ wr = w) (fun _ y _ _ => (intOf y).toNat)
  case atStart => exact ⟨⟨a, e, 1, rfl, rfl, rfl, ha, Nat.le_refl _, by omega, by rw [Nat.one_mul]⟩, rfl⟩
  case round =>
    obtain ⟨⟨a', e', o, rfl, rfl, rfl, ha', he', ho, hr⟩, rfl⟩ := hrel
    by_cases h0 : e' = 0
    · subst h0
      rw [Nat.pow_zero, Nat.mul_one, Nat.mod_eq_of_lt ho] at hr
      have HR := Lib.hid hr
      clear hr
      go_wp2
      go_ret
      exact ⟨by rw [← HR.out]; rfl, rfl⟩
    · have hgt : decide ((e' : Int) > 0) = true := decide_eq_true (by omega)
      have HS := Lib.hid (pwr_step hr)
      have hodm := Nat.mod_lt e' (show 0 < 2 by omega)
      have hm1 : o * a' % n < n := Nat.mod_lt _ (by omega)
      have hm2 : a' * a' % n < n := Nat.mod_lt _ (by omega)
      clear hr
      by_cases hod : e' % 2 = 1
      · have hodi : ((e' : Int) % 2 == 1) = true := by simp; omega
        have HOD := Lib.hid hod
        clear hod
        go_wp2_with fail
        refine (rtimes_any o a' n _ (by omega) ha' (by omega) hn2).mono ?_
        rintro r w1 ⟨rfl, rfl⟩
        go_wp2_with fail
        refine (rtimes_any a' a' n _ ha' ha' (by omega) hn2).mono ?_
        rintro r w1 ⟨rfl, rfl⟩
        go_wp2
        go_roundw
        case rel =>
          have h := HS.out
          rw [if_pos HOD.out] at h
          exact ⟨⟨a' * a' % n, e' / 2, o * a' % n, by go_num, by go_num, by go_num, by omega, by omega, hm1, h⟩, trivial⟩
        case measure => simp [intOf]; omega
      · have hodi : ((e' : Int) % 2 == 1) = false := by simp; omega
        have HOD := Lib.hid hod
        clear hod
        go_wp2_with fail
        refine (rtimes_any a' a' n _ ha' ha' (by omega) hn2).mono ?_
        rintro r w1 ⟨rfl, rfl⟩
        go_wp2
        go_roundw
        case rel =>
          have h := HS.out
          rw [if_neg HOD.out] at h
          exact ⟨⟨a' * a' % n, e' / 2, o, by go_num, by go_num, rfl, by omega, by omega, ho, h⟩, trivial⟩
        case measure => simp [intOf]; omega

theorem prodf_any (n : Nat) (w : World) (hn2 : n ≤ 4294967295) :
    Calls Try.prog 55 #[.int .u32 n] w (fun e w' => e = .returned (.func (.func 63) #[] #[.pointer (some ⟨w.heap.size, 0, none⟩)]) ∧ w' = w.alloc (.cells #[.int .u64 (n : Int)] 61)) := by
  go_enter Try.func55, Try.ntmps55
  go_wp2
  go_ret
  exact ⟨rfl, rfl⟩

theorem and1_u64 (e : Nat) (he : e < 18446744073709551616) : bits .and .u64 (e : Int) 1 = ((e % 2 : Nat) : Int) := by
  have h := u64_and_nat e 1 he (by omega)
  rw [Nat.and_one_is_mod] at h
  exact h
theorem and1_u32 (e : Nat) (he : e < 4294967296) : bits .and .u32 (e : Int) 1 = ((e % 2 : Nat) : Int) := by
  have h := u32_and_nat e 1 he (by omega)
  rw [Nat.and_one_is_mod] at h
  exact h

set_option maxHeartbeats 1000000 in
theorem power_p (a e n : Nat) (w : World) (ha : a ≤ 4294967295) (he : e < 18446744073709551616) (hn : 2 ≤ n) (hn2 : n ≤ 4294967295) :
    Calls Try.prog 54 #[.int .u32 a, .int .u64 e, .int .u32 n] w (RetV w (.int .u32 ((a ^ e % n : Nat) : Int))) := by
  go_enter Try.func54, Try.ntmps54
  go_wp2_with fail
  refine (prodf_any n w hn2).mono ?_
  rintro r w1 ⟨rfl, hw1⟩
  have hb0 : Below w.heap.size w w1 := by rw [hw1]; exact (Below.refl _ _).alloc (Nat.le_refl _) _
  have hc : w1.cell? ⟨w.heap.size, 0, none⟩ = some (.int .u64 (n : Int)) := by rw [hw1, World.cell?_alloc_new]; rfl
  clear hw1
  go_wp2
  go_loopw [0, 1, 8] (fun x y o wr => PwR a e n x y o ∧ wr = w1) (fun _ y _ _ => (intOf y).toNat)
  case atStart => exact ⟨⟨a, e, 1, rfl, rfl, rfl, ha, Nat.le_refl _, by omega, by rw [Nat.one_mul]⟩, rfl⟩
  case round =>
    obtain ⟨⟨a', e', o, rfl, rfl, rfl, ha', he', ho, hr⟩, rfl⟩ := hrel
    by_cases h0 : e' = 0
    · subst h0
      rw [Nat.pow_zero, Nat.mul_one, Nat.mod_eq_of_lt ho] at hr
      have HR := Lib.hid hr
      clear hr
      go_wp2
      go_ret
      exact ⟨by rw [← HR.out]; rfl, hb0⟩
    · have hgt : decide ((e' : Int) > 0) = true := decide_eq_true (by omega)
      have HS := Lib.hid (pwr_step hr)
      have hodm := Nat.mod_lt e' (show 0 < 2 by omega)
      have hm1 : o * a' % n < n := Nat.mod_lt _ (by omega)
      have hm2 : a' * a' % n < n := Nat.mod_lt _ (by omega)
      clear hr
      by_cases hod : e' % 2 = 1
      · have hodi : (bits BinOp.and IntKind.u64 (e' : Int) 1 == 1) = true := by rw [and1_u64 e' (by omega), hod]; rfl
        have HOD := Lib.hid hod
        clear hod
        go_wp2_with fail
        refine (mulm_any o a' n _ _ (by omega) ha' (by omega) hn2 hc).mono ?_
        rintro r w1 ⟨rfl, rfl⟩
        go_wp2_with fail
        refine (mulm_any a' a' n _ _ ha' ha' (by omega) hn2 hc).mono ?_
        rintro r w1 ⟨rfl, rfl⟩
        go_wp2
        go_roundw
        case rel =>
          have h := HS.out
          rw [if_pos HOD.out] at h
          exact ⟨⟨a' * a' % n, e' / 2, o * a' % n, by go_num, by go_num, by go_num, by omega, by omega, hm1, h⟩, trivial⟩
        case measure => simp [intOf]; omega
      · have hodi : (bits BinOp.and IntKind.u64 (e' : Int) 1 == 1) = false := by rw [and1_u64 e' (by omega), show e' % 2 = 0 by omega]; rfl
        have HOD := Lib.hid hod
        clear hod
        go_wp2_with fail
        refine (mulm_any a' a' n _ _ ha' ha' (by omega) hn2 hc).mono ?_
        rintro r w1 ⟨rfl, rfl⟩
        go_wp2
        go_roundw
        case rel =>
          have h := HS.out
          rw [if_neg HOD.out] at h
          exact ⟨⟨a' * a' % n, e' / 2, o, by go_num, by go_num, rfl, by omega, by omega, ho, h⟩, trivial⟩
        case measure => simp [intOf]; omega
end Go.Proofs.Ytcnkddoipmaddaa
