/- The contracts of poly.value and poly.Eval, and of the reference's Value and Eval. -/
import Derived.Test.YtoifjkandmnakaaAddSub
namespace Go.Proofs.Ytoifjkandmnakaa
open Go.RowKit

/-- the value of the elements from t on -/
def horF (a : Nat → Nat) (x n t : Nat) : Nat := sumN (fun i => a (t + i) * x ^ i) (n - t)

theorem sumN_shift (f : Nat → Nat) : ∀ n, sumN f (n + 1) = f 0 + sumN (fun i => f (i + 1)) n
  | 0 => by simp [sumN]
  | n + 1 => by rw [sumN, sumN_shift f n, sumN, Nat.add_assoc]
theorem sumN_mul (c : Nat) (f : Nat → Nat) : ∀ n, sumN (fun i => c * f i) n = c * sumN f n
  | 0 => rfl
  | n + 1 => by rw [sumN, sumN, sumN_mul c f n, Nat.mul_add]
theorem horF_step (a : Nat → Nat) (x n t : Nat) (h : t < n) : horF a x n t = a t + horF a x n (t + 1) * x := by
  unfold horF
  obtain ⟨k, hk⟩ : ∃ k, n - t = k + 1 := ⟨n - t - 1, by omega⟩
  rw [hk, sumN_shift, show n - (t + 1) = k from by omega, Nat.pow_zero, Nat.mul_one, Nat.add_zero, Nat.mul_comm _ x, ← sumN_mul]
  congr 1
  exact sumN_congr k fun i _ => by rw [Nat.pow_succ, show t + (i + 1) = t + 1 + i from by omega, Nat.mul_comm (x ^ i) x, Nat.mul_left_comm]
theorem horF_end (a : Nat → Nat) (x n : Nat) : horF a x n n = 0 := by unfold horF; rw [Nat.sub_self]; rfl

/-- the value of a polynomial modulo m -/
def valF (m n : Nat) (a : Nat → Nat) (x : Nat) : Nat := sumN (fun i => a i * x ^ i) n % m
theorem valF_hor (m n : Nat) (a : Nat → Nat) (x : Nat) : horF a x n 0 % m = valF m n a x := by
  unfold horF valF
  rw [Nat.sub_zero]
  congr 1
  exact sumN_congr n fun i _ => by rw [Nat.zero_add]
theorem valF_lt {m : Nat} (hm : 0 < m) (n : Nat) (a : Nat → Nat) (x : Nat) : valF m n a x < m := Nat.mod_lt _ hm

def ValS (m n : Nat) (a : Nat → Nat) (x : Nat) (v i : Value) : Prop := ∃ t : Nat, t ≤ n ∧ i = .int .i64 ((t : Int) - 1) ∧ v = .int .u64 ((horF a x n t % m : Nat) : Int)

set_option maxHeartbeats 400000 in
theorem value_any (m n c x : Nat) (A : Option Addr) (a : Nat → Nat) (w : World) (lo hi : Nat) (h : Sq .u32 w lo hi A n a) (hm : 0 < m) (hm2 : m ≤ 2147483647) (hx : x < m) (haa : ∀ j, a j < m) (hn : n ≤ 2000) :
    Calls Try.prog 57 #[.int .u32 m, .slice A n c, .int .u32 x] w (RetP w (.int .u32 (valF m n a x : Nat))) := by
  go_enter Try.func57, Try.ntmps57
  go_wp2
  go_loop [7, 8] (ValS m n a x) (fun _ i => (intOf i + 1).toNat)
  case atStart => exact ⟨n, Nat.le_refl _, rfl, by rw [horF_end]; simp⟩
  case round =>
    obtain ⟨t, ht, rfl, rfl⟩ := hrel
    obtain ⟨z, hz⟩ : ∃ z, horF a x n t % m = z := ⟨_, rfl⟩
    have hzm : horF a x n t % m < m := Nat.mod_lt _ hm
    rw [hz] at hzm
    rw [hz]
    by_cases ht0 : 0 < t
    · obtain ⟨s, rfl⟩ : ∃ s, t = s + 1 := ⟨t - 1, by omega⟩
      have hs1 : (((s + 1 : Nat) : Int) - 1) = (s : Int) := by omega
      rw [hs1]
      clear hs1
      obtain ⟨g, off, rfl, _, _, hcell⟩ := h.2 (by omega)
      have hc1 := hcell s (by omega)
      obtain ⟨y, hy⟩ : ∃ y, a s = y := ⟨_, rfl⟩
      have hym := haa s
      rw [hy] at hc1 hym
      have hxy2 := mul_lt_int hzm hx hm2
      have hxy3 : 0 ≤ (z : Int) * (x : Int) := Int.mul_nonneg (Int.natCast_nonneg _) (Int.natCast_nonneg _)
      have hd1 : 0 ≤ ((z : Int) * (x : Int) + (y : Int)) % (m : Int) := Int.emod_nonneg _ (by omega)
      have hd2 : ((z : Int) * (x : Int) + (y : Int)) % (m : Int) < (m : Int) := Int.emod_lt_of_pos _ (by omega)
      have hS : horF a x n s % m = (z * x + y) % m := by
        rw [horF_step a x n s (by omega), ← hz, ← hy, Nat.add_comm, Nat.add_mod (horF a x n (s + 1) % m * x), Nat.mod_mul_mod, ← Nat.add_mod]
      have HS := Lib.hid hS
      clear hS hy hz hcell h haa
      go_wp2
      go_round
      case rel => exact ⟨s, by omega, rfl, by rw [HS.out]; simp⟩
      case measure => simp [intOf]
    · obtain rfl : t = 0 := by omega
      rw [valF_hor] at hz
      have HZ := Lib.hid hz
      clear hz h haa
      go_wp2
      go_ret
      exact ⟨by rw [HZ.out]; rfl, rfl⟩

def ValR (m n : Nat) (a : Nat → Nat) (x : Nat) (s p i : Value) : Prop := ∃ t : Nat, t ≤ n ∧ i = .int .i64 t ∧ s = .int .u64 ((sumN (fun i => a i * x ^ i) t % m : Nat) : Int) ∧ p = .int .u64 ((x ^ t % m : Nat) : Int)

set_option maxHeartbeats 400000 in
theorem rvalue_any (m n c x : Nat) (A : Option Addr) (a : Nat → Nat) (w : World) (lo hi : Nat) (h : Sq .u32 w lo hi A n a) (hm : 0 < m) (hm2 : m ≤ 2147483647) (hx : x < m) (haa : ∀ j, a j < m) (hn : n ≤ 2000) (hhi : hi ≤ w.heap.size) :
    Calls Try.prog 58 #[.int .u32 m, .slice A n c, .int .u32 x] w (RetV w (.int .u32 (valF m n a x : Nat))) := by
  have h1m : ((1 : Int)) % (m : Int) = ((1 % m : Nat) : Int) := by simp
  have h1a : (0 : Int) ≤ (1 : Int) % (m : Int) := Int.emod_nonneg _ (by omega)
  have h1b : (1 : Int) % (m : Int) < (m : Int) := Int.emod_lt_of_pos _ (by omega)
  have H1 := Lib.hid h1m
  clear h1m
  go_enter Try.func58, Try.ntmps58
  go_wp2
  go_quiet (fail)
  go_wp2
  have hd := below_drewN (Below.refl w.heap.size w) nq
  have HSQ := Lib.hid (h.below hd hhi)
  clear h1a h1b h
  go_loop [7, 8, 9] (ValR m n a x) (fun _ _ i => n - (intOf i).toNat)
  case atStart => exact ⟨0, Nat.zero_le _, rfl, by simp [sumN], by rw [H1.out, Nat.pow_zero]⟩
  case round =>
    obtain ⟨t, ht, rfl, rfl, rfl⟩ := hrel
    obtain ⟨z, hz⟩ : ∃ z, sumN (fun i => a i * x ^ i) t % m = z := ⟨_, rfl⟩
    obtain ⟨p, hp⟩ : ∃ p, x ^ t % m = p := ⟨_, rfl⟩
    have hzm : sumN (fun i => a i * x ^ i) t % m < m := Nat.mod_lt _ hm
    have hpm : x ^ t % m < m := Nat.mod_lt _ hm
    rw [hz] at hzm
    rw [hp] at hpm
    rw [hz, hp]
    by_cases htn : t < n
    · have HA := Lib.hid (at_any A n c a t (w.drewN nq) lo hi HSQ.out (by omega) (by omega) (fun j => by have := haa j; omega))
      obtain ⟨y, hy⟩ : ∃ y, a t = y := ⟨_, rfl⟩
      have hym := haa t
      rw [Int.toNat_natCast, hy] at HA
      rw [hy] at hym
      have q1 := mul_lt_int hym hpm hm2
      have q2 : 0 ≤ (y : Int) * (p : Int) := Int.mul_nonneg (Int.natCast_nonneg _) (Int.natCast_nonneg _)
      have q3 := mul_lt_int hpm hx hm2
      have q4 : 0 ≤ (p : Int) * (x : Int) := Int.mul_nonneg (Int.natCast_nonneg _) (Int.natCast_nonneg _)
      have hd1 : 0 ≤ ((z : Int) + (y : Int) * (p : Int)) % (m : Int) := Int.emod_nonneg _ (by omega)
      have hd2 : ((z : Int) + (y : Int) * (p : Int)) % (m : Int) < (m : Int) := Int.emod_lt_of_pos _ (by omega)
      have hd3 : 0 ≤ ((p : Int) * (x : Int)) % (m : Int) := Int.emod_nonneg _ (by omega)
      have hd4 : ((p : Int) * (x : Int)) % (m : Int) < (m : Int) := Int.emod_lt_of_pos _ (by omega)
      have hS1 : sumN (fun i => a i * x ^ i) (t + 1) % m = (z + y * p) % m := by
        rw [sumN, ← hz, ← hp, ← hy, Nat.add_mod (sumN _ t % m), Nat.mod_mod, Nat.mul_mod_mod, ← Nat.add_mod]
      have hS2 : x ^ (t + 1) % m = (p * x) % m := by rw [Nat.pow_succ, ← hp, Nat.mod_mul_mod]
      have HS := Lib.hid (And.intro hS1 hS2)
      clear hS1 hS2 hy hz hp haa
      go_wp2_with (go_at_call 53; refine HA.out.mono ?_; rintro e w' ⟨rfl, rfl⟩)
      go_round
      case rel =>
        refine ⟨t + 1, by omega, by go_num, ?_, ?_⟩
        · rw [HS.out.1]; simp
        · rw [HS.out.2]; simp
      case measure => simp [intOf]; omega
    · obtain rfl : t = n := by omega
      have hv : valF m t a x = z := hz
      have HZ := Lib.hid hv
      clear hv hz hp haa
      go_wp2
      go_ret
      exact ⟨by rw [HZ.out]; rfl, hd⟩

def evE (m n : Nat) (a : Nat → Nat) (x : Nat) : Nat := if chk m n a = 0 then (if m ≤ x then 2 else 0) else chk m n a
def evV (m n : Nat) (a : Nat → Nat) (x : Nat) : Nat := if evE m n a x = 0 then valF m n a x else 0

set_option maxHeartbeats 1000000 in
theorem eval_any (m n c x : Nat) (A : Option Addr) (a : Nat → Nat) (w : World) (lo hi : Nat) (ha : Sq .u32 w lo hi A n a) (hn : n ≤ 9223372036854775807) (hhi : hi ≤ w.heap.size) :
    Calls Try.prog 35 #[.int .u32 m, .slice A n c, .int .u32 x] w (RetV w (.tuple #[.int .u32 (evV m n a x : Nat), .int .i64 (evE m n a x : Nat)])) := by
  have HV := Lib.hid (check1_call m n c A a w lo hi ha hn hhi)
  by_cases hc : chk m n a = 0
  · rw [hc] at HV
    obtain ⟨m1, m2, n1, _, _⟩ := chk_zero hc
    have HAA := Lib.hid (vals_lt hc ha.1)
    have HA := Lib.hid ha
    clear ha
    by_cases hx : m ≤ x
    · have hE : evE m n a x = 2 := by unfold evE; rw [if_pos hc, if_pos hx]
      have hV : evV m n a x = 0 := by unfold evV; rw [hE, if_neg (by decide)]
      rw [hE, hV]
      clear hc hE hV
      go_enter Try.func35, Try.ntmps35
      go_wp2_with fail
      refine (HV.out _ rfl).mono ?_
      rintro e w1 ⟨rfl, hbel1⟩
      go_wp2
      go_ret2
      exact ⟨rfl, hbel1⟩
    · have hE : evE m n a x = 0 := by unfold evE; rw [if_pos hc, if_neg hx]
      have hV : evV m n a x = valF m n a x := by unfold evV; rw [hE, if_pos rfl]
      rw [hE, hV]
      clear hc hE hV
      go_enter Try.func35, Try.ntmps35
      go_wp2_with fail
      refine (HV.out _ rfl).mono ?_
      rintro e w1 ⟨rfl, hbel1⟩
      go_wp2_with fail
      refine (value_any m n c x A a w1 lo hi (HA.out.below hbel1 hhi) (by omega) m2 (by omega) HAA.out (by omega)).mono ?_
      rintro e w2 ⟨rfl, rfl⟩
      go_wp2
      go_ret2
      exact ⟨rfl, hbel1⟩
  · obtain ⟨y, hy⟩ : ∃ y, chk m n a = y := ⟨_, rfl⟩
    have hE : evE m n a x = y := by unfold evE; rw [if_neg hc, hy]
    rw [hy] at HV hc
    have hV : evV m n a x = 0 := by unfold evV; rw [hE, if_neg hc]
    rw [hE, hV]
    have hyz : ((y : Int) != 0) = true := by simp; omega
    clear hy ha hE hV
    go_enter Try.func35, Try.ntmps35
    go_wp2_with fail
    refine (HV.out _ rfl).mono ?_
    rintro e w1 ⟨rfl, hbel1⟩
    go_wp2
    go_ret2
    exact ⟨rfl, hbel1⟩

set_option maxHeartbeats 1000000 in
theorem reval_any (m n c x : Nat) (A : Option Addr) (a : Nat → Nat) (w : World) (lo hi : Nat) (ha : Sq .u32 w lo hi A n a) (hn : n ≤ 9223372036854775807) (hhi : hi ≤ w.heap.size) :
    Calls Try.prog 37 #[.int .u32 m, .slice A n c, .int .u32 x] w (RetV w (.tuple #[.int .u32 (evV m n a x : Nat), .int .i64 (evE m n a x : Nat)])) := by
  have HV := Lib.hid (check_any m n c A a w lo hi ha hn)
  by_cases hc : chk m n a = 0
  · rw [hc] at HV
    obtain ⟨m1, m2, n1, _, _⟩ := chk_zero hc
    have HAA := Lib.hid (vals_lt hc ha.1)
    have HA := Lib.hid ha
    clear ha
    by_cases hx : m ≤ x
    · have hE : evE m n a x = 2 := by unfold evE; rw [if_pos hc, if_pos hx]
      have hV : evV m n a x = 0 := by unfold evV; rw [hE, if_neg (by decide)]
      rw [hE, hV]
      clear hc hE hV
      go_enter Try.func37, Try.ntmps37
      go_wp2_with fail
      refine HV.out.mono ?_
      rintro e w1 ⟨rfl, hbel1⟩
      go_wp2
      go_ret2
      exact ⟨rfl, hbel1⟩
    · have hE : evE m n a x = 0 := by unfold evE; rw [if_pos hc, if_neg hx]
      have hV : evV m n a x = valF m n a x := by unfold evV; rw [hE, if_pos rfl]
      rw [hE, hV]
      clear hc hE hV
      go_enter Try.func37, Try.ntmps37
      go_wp2_with fail
      refine HV.out.mono ?_
      rintro e w1 ⟨rfl, hbel1⟩
      go_wp2_with fail
      refine (rvalue_any m n c x A a w1 lo hi (HA.out.below hbel1 hhi) (by omega) m2 (by omega) HAA.out (by omega) (by have := hbel1.size; omega)).mono ?_
      rintro e w2 ⟨rfl, hbel2⟩
      go_wp2
      go_ret2
      exact ⟨rfl, hbel1.trans (hbel2.mono hbel1.size)⟩
  · obtain ⟨y, hy⟩ : ∃ y, chk m n a = y := ⟨_, rfl⟩
    have hE : evE m n a x = y := by unfold evE; rw [if_neg hc, hy]
    rw [hy] at HV hc
    have hV : evV m n a x = 0 := by unfold evV; rw [hE, if_neg hc]
    rw [hE, hV]
    have hyz : ((y : Int) != 0) = true := by simp; omega
    clear hy ha hE hV
    go_enter Try.func37, Try.ntmps37
    go_wp2_with fail
    refine HV.out.mono ?_
    rintro e w1 ⟨rfl, hbel1⟩
    go_wp2
    go_ret2
    exact ⟨rfl, hbel1⟩
end Go.Proofs.Ytoifjkandmnakaa
