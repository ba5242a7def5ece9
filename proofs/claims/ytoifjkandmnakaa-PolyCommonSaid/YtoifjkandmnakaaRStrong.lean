/- The contract of the reference's strong test. -/
import Derived.Test.YtoifjkandmnakaaStrong
namespace Go.Proofs.Ytoifjkandmnakaa
open Go.RowKit

set_option maxHeartbeats 2000000 in
theorem rstrong_any (a n : Nat) (w : World) (ha : a ≤ 4294967295) (hn : 3 ≤ n) (hn2 : n ≤ 4294967295) (hodd : n % 2 = 1) :
    Calls Try.prog 68 #[.int .u32 a, .int .u32 n] w (RetP w (.bool (spB a n))) := by
  have hmod0 : 0 ≤ (a : Int) % (n : Int) := Int.emod_nonneg _ (by omega)
  have hmod1 : (a : Int) % (n : Int) < (n : Int) := Int.emod_lt_of_pos _ (by omega)
  have hmodi : (a : Int) % (n : Int) = ((a % n : Nat) : Int) := by simp
  have HMI := Lib.hid hmodi
  clear hmodi
  go_enter Try.func68, Try.ntmps68
  go_wp2
  go_loopw [5] (fun x wr => ∃ d t : Nat, x = .int .u32 (d : Int) ∧ 0 < d ∧ d < n ∧ n - 1 = 2 ^ t * d ∧ wr = w) (fun x _ => (intOf x).toNat)
  case atStart => exact ⟨n - 1, 0, by go_num, by omega, by omega, by simp, rfl⟩
  case round =>
    obtain ⟨d, t, rfl, hd0, hdn, hnd, rfl⟩ := hrel
    by_cases hev : d % 2 = 0
    · have hb : ((d : Int) % 2 == 0) = true := by simp; omega
      have HND := Lib.hid hnd
      clear hnd
      go_wp2
      go_roundw
      case rel =>
        refine ⟨d / 2, t + 1, by go_num, by omega, by omega, ?_, trivial⟩
        rw [HND.out, Nat.pow_succ, Nat.mul_assoc]
        congr 1
        omega
      case measure => simp [intOf]; omega
    · have hb : ((d : Int) % 2 == 0) = false := by simp; omega
      have hodd' : d % 2 = 1 := by omega
      have HI := Lib.hid (SP_iff (a := a) hnd hodd')
      have HND := Lib.hid hnd
      clear hnd hev hodd'
      go_wp2_with fail
      rw [HMI.out]
      refine (rpower_any (a % n) d n _ (by have := Nat.mod_lt a (show 0 < n by omega); omega) (by omega) (by omega) hn2).mono ?_
      rintro r w1 ⟨rfl, rfl⟩
      rw [← Nat.pow_mod]
      have hx0 : a ^ d % n < n := Nat.mod_lt _ (by omega)
      obtain ⟨x, hx⟩ : ∃ x, a ^ d % n = x := ⟨_, rfl⟩
      rw [hx] at hx0 ⊢
      by_cases c1 : x = 1
      · have hr := Lib.hid (spB_yes (HI.out.2 (.inl (hx.trans c1))))
        subst c1
        clear hx
        go_wp2
        go_ret
        exact ⟨by rw [hr.out]; rfl, rfl⟩
      · have d1 : ((x : Int) == 1) = false := by simp; omega
        have HX := Lib.hid (And.intro hx c1)
        clear hx c1
        go_wp2
        go_loopw [5, 6] (fun e x v => ∃ y k : Nat, x = .int .u32 (y : Int) ∧ e = .int .u32 ((2 ^ k * d : Nat) : Int) ∧ k ≤ t ∧ y = a ^ (2 ^ k * d) % n ∧ (∀ r, r < k → a ^ (2 ^ r * d) % n ≠ n - 1) ∧ v = wr) (fun e _ _ => n - (intOf e).toNat)
        case atStart =>
          refine ⟨x, 0, rfl, by rw [Nat.pow_zero, Nat.one_mul], Nat.zero_le _, by rw [Nat.pow_zero, Nat.one_mul, HX.out.1], fun r hr => absurd hr (Nat.not_lt_zero r), rfl⟩
        case round =>
          obtain ⟨y, k, rfl, rfl, hk, hy, hne, rfl⟩ := hrel
          have hyn : y < n := by rw [hy]; exact Nat.mod_lt _ (by omega)
          by_cases hkt : k < t
          · have hE : 2 ^ k * d * 2 ≤ n - 1 ∧ 0 < 2 ^ k * d := by
              have h3 : 0 < 2 ^ k * d := Nat.mul_pos (Nat.two_pow_pos k) hd0
              have h2 : 2 ^ (k + 1) * d ≤ 2 ^ t * d := Nat.mul_le_mul_right d (Nat.pow_le_pow_right (by omega) hkt)
              have h4 := HND.out
              rw [Nat.pow_succ, Nat.mul_right_comm] at h2
              omega
            have hE3 : 2 ^ (k + 1) * d = 2 ^ k * d * 2 := by rw [Nat.pow_succ, Nat.mul_right_comm]
            by_cases hzn : y = n - 1
            · have hr := Lib.hid (spB_yes (HI.out.2 (.inr ⟨k, hkt, hy.symm.trans hzn⟩)))
              have d3 : ((y : Int) == (n : Int) - 1) = true := by simp; omega
              obtain ⟨E, hE2⟩ : ∃ E, 2 ^ k * d = E := ⟨_, rfl⟩
              rw [hE2] at hE
              rw [hE2]
              have hlt : decide ((E : Int) < (n : Int) - 1) = true := decide_eq_true (by omega)
              clear hy hne hE2 hE3
              go_wp2
              go_ret
              exact ⟨by rw [hr.out]; rfl, rfl⟩
            · have d3 : ((y : Int) == (n : Int) - 1) = false := by simp; omega
              obtain ⟨z, hz⟩ : ∃ z, y * y % n = z := ⟨_, rfl⟩
              have hz2 : z = a ^ (2 ^ (k + 1) * d) % n := by rw [← hz, hy, pow_dbl]
              have HY := Lib.hid (And.intro hz2 (And.intro hne hy))
              obtain ⟨E, hE2⟩ : ∃ E, 2 ^ k * d = E := ⟨_, rfl⟩
              rw [hE2] at hE hE3
              rw [hE2]
              have hlt : decide ((E : Int) < (n : Int) - 1) = true := decide_eq_true (by omega)
              have HE := Lib.hid hE3
              clear hy hz2 hne hE2 hE3
              go_wp2_with fail
              refine (rtimes_any y y n _ (by omega) (by omega) (by omega) hn2).mono ?_
              rintro r w3 ⟨rfl, rfl⟩
              rw [hz]
              go_wp2
              go_roundw
              case rel =>
                refine ⟨z, k + 1, rfl, by rw [HE.out]; go_num, by omega, HY.out.1, fun r hr => ?_, trivial⟩
                rcases Nat.lt_or_ge r k with h | h
                · exact HY.out.2.1 r h
                · obtain rfl : r = k := by omega
                  rw [← HY.out.2.2]
                  exact hzn
              case measure => simp [intOf]; omega
          · obtain rfl : k = t := by omega
            have hr := Lib.hid (spB_no fun hs => by
              rcases HI.out.1 hs with h | ⟨r, hr, h⟩
              · exact HX.out.2 (HX.out.1.symm.trans h)
              · exact hne r hr h)
            have hEE := HND.out
            rw [← hEE]
            have hlt : decide (((n - 1 : Nat) : Int) < (n : Int) - 1) = false := decide_eq_false (by omega)
            clear hy hne hEE
            go_wp2
            go_ret
            exact ⟨by rw [hr.out]; rfl, rfl⟩
end Go.Proofs.Ytoifjkandmnakaa
