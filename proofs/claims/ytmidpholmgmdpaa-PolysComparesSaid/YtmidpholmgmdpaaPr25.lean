/- The contract of the law's own prime of layer 25. -/
import Derived.Test.YtmidpholmgmdpaaEq25
namespace Go.Proofs.Ytmidpholmgmdpaa
open Go.RowKit
set_option linter.unusedVariables false

open Classical in
/-- a prime below 65536 -/
noncomputable def prL (p : Nat) : Bool := decide (p ≤ 65535 ∧ Mr.Pr p)
open Classical in
theorem prL_yes {p : Nat} : prL p = true ↔ p ≤ 65535 ∧ Mr.Pr p := by unfold prL; exact decide_eq_true_iff
open Classical in
theorem prL_no {p : Nat} : prL p = false ↔ ¬ (p ≤ 65535 ∧ Mr.Pr p) := by unfold prL; exact decide_eq_false_iff_not
theorem pr_of_trial {p d : Nat} (h2 : 2 ≤ p) (hd : p < d * d) (h : ∀ e, 2 ≤ e → e < d → ¬ e ∣ p) : Mr.Pr p := by
  refine ⟨h2, fun e he => ?_⟩
  obtain ⟨q, hq⟩ := he
  have hq0 : q ≠ 0 := fun h0 => by subst h0; omega
  have he0 : e ≠ 0 := fun h0 => by subst h0; rw [Nat.zero_mul] at hq; omega
  by_cases h1 : e = 1
  · exact .inl h1
  · rcases Nat.lt_or_ge e d with h3 | h3
    · exact absurd ⟨q, hq⟩ (h e (by omega) h3)
    · rcases Nat.lt_or_ge q d with h4 | h4
      · by_cases h5 : q = 1
        · subst h5; right; omega
        · exact absurd ⟨e, by rw [Nat.mul_comm]; exact hq⟩ (h q (by omega) h4)
      · have := Nat.mul_le_mul h3 h4
        omega
set_option maxRecDepth 100000 in
set_option maxHeartbeats 4000000 in
theorem prime25_any (p : Nat) (w : World) (hp : p ≤ 4294967295) : Calls Try.prog 29 #[.int .u32 p] w (RetP w (.bool (prL p))) := by
  by_cases h2 : p < 2
  · have HE := Lib.hid ((prL_no (p := p)).2 (fun h => by have := h.2.1; omega))
    have d1 : decide ((p : Int) < 2) = true := decide_eq_true (by omega)
    have d2 : decide (p < 2) = true := decide_eq_true h2
    go_enter Try.func29, Try.ntmps29
    go_wp2
    go_ret
    exact ⟨by rw [HE.out]; rfl, rfl⟩
  have d1 : decide ((p : Int) < 2) = false := decide_eq_false (by omega)
  have d2 : decide (p < 2) = false := decide_eq_false h2
  by_cases h6 : 65535 < p
  · have HE := Lib.hid ((prL_no (p := p)).2 (fun h => by have := h.1; omega))
    have d3 : decide ((p : Int) > 65535) = true := decide_eq_true (by omega)
    have d4 : decide (65535 < p) = true := decide_eq_true h6
    go_enter Try.func29, Try.ntmps29
    go_wp2
    go_ret
    exact ⟨by rw [HE.out]; rfl, rfl⟩
  have d3 : decide ((p : Int) > 65535) = false := decide_eq_false (by omega)
  have d4 : decide (65535 < p) = false := decide_eq_false h6
  go_enter Try.func29, Try.ntmps29
  go_wp2
  go_loop [3] (fun D => ∃ d : Nat, D = .int .u32 (d : Int) ∧ 2 ≤ d ∧ d ≤ 65536 ∧ ∀ e, 2 ≤ e → e < d → ¬ e ∣ p) (fun D => 65536 - (intOf D).toNat)
  case atStart => exact ⟨2, rfl, by omega, by omega, fun e h1 h2 => by omega⟩
  case round =>
    obtain ⟨d, rfl, hd2, hd6, hnd⟩ := hrel
    have HND := Lib.hid hnd
    clear hnd
    have hd0 : ¬ d = 0 := by omega
    by_cases hdd : d < 65536
    rotate_left
    · obtain rfl : d = 65536 := by omega
      exfalso
      exact HND.out p (by omega) (by omega) (Nat.dvd_refl p)
    obtain ⟨q, hq⟩ : ∃ q, d * d = q := ⟨_, rfl⟩
    have hqi : (d : Int) * (d : Int) = (q : Int) := by rw [← hq]; simp
    have hqb : q ≤ 4294836225 := by rw [← hq]; exact Nat.mul_le_mul (show d ≤ 65535 by omega) (show d ≤ 65535 by omega)
    have HQ := Lib.hid hq
    clear hq
    by_cases hle : q ≤ p
    · have e1 : decide ((q : Int) ≤ (p : Int)) = true := decide_eq_true (by omega)
      have hmi : (p : Int) % (d : Int) = ((p % d : Nat) : Int) := by simp
      have hmt : (p : Int).tmod (d : Int) = ((p % d : Nat) : Int) := by rw [Int.tmod_eq_emod_of_nonneg (by omega), hmi]
      by_cases hm : p % d = 0
      · rw [hm] at hmi hmt
        have HE := Lib.hid ((prL_no (p := p)).2 (fun h => by
          have hdv := Nat.dvd_of_mod_eq_zero hm
          rcases h.2.2 d hdv with h1 | h1
          · omega
          · have hx := HQ.out
            rw [h1] at hx
            have := Nat.mul_le_mul_left p (show 2 ≤ p by omega)
            omega))
        clear hm
        go_wp2
        go_ret
        exact ⟨by rw [HE.out]; rfl, rfl⟩
      · obtain ⟨r, hr⟩ : ∃ r, p % d = r := ⟨_, rfl⟩
        rw [hr] at hmi hmt
        have hr0 : ((r : Int) == 0) = false := by rw [beq_eq_false_iff_ne]; omega
        have hr1 : ¬ r = 0 := by omega
        have HN : Hid (∀ e, 2 ≤ e → e < d + 1 → ¬ e ∣ p) := Lib.hid fun e h1 h2 hdv => by
          rcases Nat.lt_or_eq_of_le (Nat.le_of_lt_succ h2) with h3 | h3
          · exact HND.out e h1 h3 hdv
          · subst h3; exact hm (Nat.mod_eq_zero_of_dvd hdv)
        clear hm hr
        go_wp2
        go_round
        case rel => exact ⟨d + 1, by go_num, by omega, by omega, HN.out⟩
        case measure => simp only [intOf]; omega
    · have e1 : decide ((q : Int) ≤ (p : Int)) = false := decide_eq_false (by omega)
      have HE := Lib.hid ((prL_yes (p := p)).2 ⟨by omega, pr_of_trial (by omega) (by rw [HQ.out]; omega) HND.out⟩)
      go_wp2
      go_ret
      exact ⟨by rw [HE.out]; rfl, rfl⟩
end Go.Proofs.Ytmidpholmgmdpaa
