/- The contracts of factor's plain, Degree and value. -/
import Derived.Test.YtcnkddoipmaddaaPrimeP
import Derived.Test.YtcnkddoipmaddaaRInv
import Derived.Test.YtcnkddoipmaddaaSqArg
namespace Go.Proofs.Ytcnkddoipmaddaa
open Go.RowKit
set_option linter.unusedVariables false

/-- what plain asks -/
def Pl (p : Nat) (r : Int) : Prop := 3 ≤ p ∧ p ≤ 65535 ∧ Mr.Pr p ∧ 1 ≤ r ∧ p ^ r.toNat ≤ 2147483647
def RetPl (w : World) (p : Nat) (r : Int) (e : Ending) (w' : World) : Prop :=
  Below w.heap.size w w' ∧ ((Pl p r ∧ e = .returned (.tuple #[.int .u64 (((p ^ r.toNat : Nat) : Nat) : Int), .bool true])) ∨ (¬ Pl p r ∧ e = .returned (.tuple #[.int .u64 0, .bool false])))

set_option maxHeartbeats 1000000 in
theorem plain_any (p : Nat) (r : Int) (w : World) (hp : p ≤ 4294967295) (hr : r ≤ 9223372036854775807) : Calls Try.prog 45 #[.int .u32 p, .int .i64 r] w (RetPl w p r) := by
  have HP := Lib.hid (prime_any p w hp)
  by_cases h0 : 3 ≤ p ∧ p ≤ 65535 ∧ prB p = true ∧ 1 ≤ r
  rotate_left
  · have HN : Hid (¬ Pl p r) := Lib.hid fun h => h0 ⟨h.1, h.2.1, prB_yes h.2.2.1, h.2.2.2.1⟩
    have hc : p < 3 ∨ (3 ≤ p ∧ 65535 < p) ∨ (3 ≤ p ∧ p ≤ 65535 ∧ prB p = false) ∨ (3 ≤ p ∧ p ≤ 65535 ∧ prB p = true ∧ r < 1) := by
      rcases Nat.lt_or_ge p 3 with g1 | g1
      · exact .inl g1
      rcases Nat.lt_or_ge 65535 p with g2 | g2
      · exact .inr (.inl ⟨g1, g2⟩)
      cases hb : prB p with
      | false => exact .inr (.inr (.inl ⟨g1, g2, rfl⟩))
      | true => exact .inr (.inr (.inr ⟨g1, g2, rfl, by
          rcases Int.lt_or_le r 1 with g3 | g3
          · exact g3
          · exact absurd ⟨g1, g2, hb, g3⟩ h0⟩))
    clear h0
    rcases hc with h1 | ⟨h1, h2⟩ | ⟨h1, h2, h3⟩ | ⟨h1, h2, h3, h4⟩
    all_goals
      first
        | have d1 : decide ((p : Int) < 3) = true := decide_eq_true (by omega)
        | have d1 : decide ((p : Int) < 3) = false := decide_eq_false (by omega)
      try first
        | have d2 : decide ((p : Int) > 65535) = true := decide_eq_true (by omega)
        | have d2 : decide ((p : Int) > 65535) = false := decide_eq_false (by omega)
      try rw [h3] at HP
      try have d3 : decide (r < 1) = true := decide_eq_true (by omega)
      go_enter Try.func45, Try.ntmps45
      go_wp2_with (go_at_call 52; refine HP.out.mono ?_; rintro e w' ⟨rfl, hb1⟩)
      go_ret2
      exact ⟨by first | assumption | exact Below.refl _ _, .inr ⟨HN.out, rfl⟩⟩
  · obtain ⟨h1, h2, h3, h4⟩ := h0
    obtain ⟨k, rfl⟩ : ∃ k : Nat, r = (k : Int) := ⟨r.toNat, by omega⟩
    have d1 : decide ((p : Int) < 3) = false := decide_eq_false (by omega)
    have d2 : decide ((p : Int) > 65535) = false := decide_eq_false (by omega)
    have d3 : decide ((k : Int) < 1) = false := decide_eq_false (by omega)
    rw [h3] at HP
    have HPR : Hid (Mr.Pr p) := Lib.hid (prB_true.1 h3)
    clear h3
    go_enter Try.func45, Try.ntmps45
    go_wp2_with (go_at_call 52; refine HP.out.mono ?_; rintro e w' ⟨rfl, hb1⟩)
    go_loop [6, 23] (fun M I => ∃ i m : Nat, M = .int .u64 (m : Int) ∧ I = .int .i64 (i : Int) ∧ i ≤ k ∧ m ≤ 2147483647 ∧ p ^ i = m) (fun _ I => k - (intOf I).toNat)
    case atStart => exact ⟨0, 1, rfl, rfl, Nat.zero_le _, by omega, Nat.pow_zero p⟩
    case round =>
      obtain ⟨i, m, rfl, rfl, hik, hmb, hpm⟩ := hrel
      have HPM := Lib.hid hpm
      clear hpm
      by_cases hlt : i < k
      · obtain ⟨m2, hm2⟩ : ∃ m2, m * p = m2 := ⟨_, rfl⟩
        have hm2i : (m : Int) * (p : Int) = (m2 : Int) := by rw [← hm2]; simp
        have hm2b : m2 ≤ 2147483647 * 65535 := by rw [← hm2]; exact Nat.mul_le_mul hmb h2
        have hp2 : p ^ (i + 1) = m2 := by rw [Nat.pow_succ, HPM.out, hm2]
        have HP2 := Lib.hid hp2
        clear hm2 hp2
        by_cases hbig : 2147483647 < m2
        · have d4 : decide ((m2 : Int) > 2147483647) = true := decide_eq_true (by omega)
          have HN : Hid (¬ Pl p (k : Int)) := Lib.hid fun h => by
            have h5 := h.2.2.2.2
            rw [Int.toNat_natCast] at h5
            have := Nat.pow_le_pow_right (show 0 < p by omega) (show i + 1 ≤ k by omega)
            have := HP2.out
            omega
          go_wp2
          go_ret2
          exact ⟨by assumption, .inr ⟨HN.out, rfl⟩⟩
        · have d4 : decide ((m2 : Int) > 2147483647) = false := decide_eq_false (by omega)
          go_wp2
          go_round
          case rel => exact ⟨i + 1, m2, rfl, by go_num, hlt, by omega, HP2.out⟩
          case measure => simp only [intOf]; omega
      · obtain rfl : k = i := by omega
        have HPL : Hid (Pl p (k : Int) ∧ p ^ (k : Int).toNat = m) := Lib.hid ⟨⟨h1, h2, HPR.out, by omega, by rw [Int.toNat_natCast, HPM.out]; exact hmb⟩, by rw [Int.toNat_natCast, HPM.out]⟩
        go_wp2
        go_ret2
        exact ⟨by assumption, .inl ⟨HPL.out.1, by rw [HPL.out.2]; rfl⟩⟩
end Go.Proofs.Ytcnkddoipmaddaa
