/- The contracts of the small functions of layer 25, the program's and the reference's. -/
/- The contract of poly.trim: the slice, cut behind its last element that is not zero. -/
/- The iterator pairs of poly.Interpolate: its contract. -/
import Derived.Test.YtmidpholmgmdpaaRMod7
import Derived.Test.YtmidpholmgmdpaaEuclid
import Derived.Test.YtmidpholmgmdpaaChecked
import Derived.Test.YtmidpholmgmdpaaLaws
import Derived.RangeFuncNested
import Derived.RangeFuncBound
import Derived.RangeFuncCalls
import Derived.RangeFuncLeaves
import Derived.Shelf.Abstract
import Derived.Shelf.RegionOpen
import Derived.OwnWalkIn
import Derived.TacticsInMore
import Derived.LoopNIn
import Derived.LoopIn
namespace Go.Proofs.Ytmidpholmgmdpaa
open Go.RowKit
set_option linter.unusedVariables false

/-- what is said of a field -/
noncomputable def fieldE (p : Nat) : Int := if pp7 p then (if 256 < p then 3 else 0) else 2
theorem pp_prB {p : Nat} : pp7 p = true ↔ 3 ≤ p ∧ p ≤ 65535 ∧ prB p = true :=
  pp7_yes.trans ⟨fun ⟨h1, h2, h3⟩ => ⟨h1, h2, prB_yes h3⟩, fun ⟨h1, h2, h3⟩ => ⟨h1, h2, by
    by_cases h : Mr.Pr p
    · exact h
    · rw [prB_no h] at h3; cases h3⟩⟩
theorem field25_any (p : Nat) (w : World) (hp : p ≤ 4294967295) : Calls Try.prog 30 #[.int .u32 p] w (RetV w (.int .i64 (fieldE p))) := by
  have HP := Lib.hid (prime_any p w hp)
  have hcase : p < 3 ∨ (3 ≤ p ∧ 65535 < p) ∨ (3 ≤ p ∧ p ≤ 65535 ∧ prB p = false) ∨ (3 ≤ p ∧ p ≤ 65535 ∧ prB p = true ∧ 256 < p) ∨ (3 ≤ p ∧ p ≤ 65535 ∧ prB p = true ∧ p ≤ 256) := by
    cases prB p <;> simp <;> omega
  have hno : (¬ (3 ≤ p ∧ p ≤ 65535 ∧ prB p = true)) → fieldE p = 2 := fun h => by
    unfold fieldE
    rw [if_neg]
    intro h2
    exact h (pp_prB.1 h2)
  rcases hcase with h1 | ⟨h1, h2⟩ | ⟨h1, h2, h3⟩ | ⟨h1, h2, h3, h4⟩ | ⟨h1, h2, h3, h4⟩
  · have HE := Lib.hid (hno (by omega))
    have d1 : decide ((p : Int) < 3) = true := decide_eq_true (by omega)
    have d2 : decide (p < 3) = true := decide_eq_true (by omega)
    clear hno
    go_enter Try.func30, Try.ntmps30
    go_wp2
    go_ret
    exact ⟨by rw [HE.out]; rfl, Below.refl _ _⟩
  · have HE := Lib.hid (hno (by omega))
    have d1 : decide ((p : Int) < 3) = false := decide_eq_false (by omega)
    have d2 : decide (p < 3) = false := decide_eq_false (by omega)
    have d3 : decide ((p : Int) > 65535) = true := decide_eq_true (by omega)
    have d4 : decide (65535 < p) = true := decide_eq_true (by omega)
    clear hno
    go_enter Try.func30, Try.ntmps30
    go_wp2
    go_ret
    exact ⟨by rw [HE.out]; rfl, Below.refl _ _⟩
  all_goals
    have d1 : decide ((p : Int) < 3) = false := decide_eq_false (by omega)
    have d2 : decide (p < 3) = false := decide_eq_false (by omega)
    have d3 : decide ((p : Int) > 65535) = false := decide_eq_false (by omega)
    have d4 : decide (65535 < p) = false := decide_eq_false (by omega)
    rw [h3] at HP
  · have HE := Lib.hid (hno (by rw [h3]; simp))
    clear hno h3
    go_enter Try.func30, Try.ntmps30
    go_wp2_with fail
    refine HP.out.mono ?_
    rintro e w1 ⟨rfl, hb1⟩
    go_wp2_with fail
    go_ret
    exact ⟨by rw [HE.out]; rfl, hb1⟩
  · have HE : Hid (fieldE p = 3) := Lib.hid (by unfold fieldE; rw [if_pos (pp_prB.2 ⟨h1, h2, h3⟩), if_pos h4])
    have d5 : decide ((p : Int) > 256) = true := decide_eq_true (by omega)
    have d6 : decide (256 < p) = true := decide_eq_true (by omega)
    clear hno h3
    go_enter Try.func30, Try.ntmps30
    go_wp2_with fail
    refine HP.out.mono ?_
    rintro e w1 ⟨rfl, hb1⟩
    go_wp2_with fail
    go_ret
    exact ⟨by rw [HE.out]; rfl, hb1⟩
  · have HE : Hid (fieldE p = 0) := Lib.hid (by unfold fieldE; rw [if_pos (pp_prB.2 ⟨h1, h2, h3⟩), if_neg (by omega)])
    have d5 : decide ((p : Int) > 256) = false := decide_eq_false (by omega)
    have d6 : decide (256 < p) = false := decide_eq_false (by omega)
    clear hno h3
    go_enter Try.func30, Try.ntmps30
    go_wp2_with fail
    refine HP.out.mono ?_
    rintro e w1 ⟨rfl, hb1⟩
    go_wp2_with fail
    go_ret
    exact ⟨by rw [HE.out]; rfl, hb1⟩
theorem rfield25_any (p : Nat) (w : World) (hp : p ≤ 4294967295) : Calls Try.prog 35 #[.int .u32 p] w (RetV w (.int .i64 (fieldE p))) := by
  have HP := Lib.hid (rpp7_any p w hp)
  have hcase : pp7 p = false ∨ (pp7 p = true ∧ 256 < p) ∨ (pp7 p = true ∧ p ≤ 256) := by
    cases pp7 p <;> simp <;> omega
  rcases hcase with h3 | ⟨h3, h4⟩ | ⟨h3, h4⟩
  all_goals rw [h3] at HP
  · have HE : Hid (fieldE p = 2) := Lib.hid (by unfold fieldE; rw [h3]; rfl)
    clear h3
    go_enter Try.func35, Try.ntmps35
    go_wp2_with (go_at_call 57; refine HP.out.mono ?_; rintro e w' ⟨rfl, hw⟩; subst hw)
    go_ret
    exact ⟨by rw [HE.out]; rfl, Below.refl _ _⟩
  · have HE : Hid (fieldE p = 3) := Lib.hid (by unfold fieldE; rw [if_pos h3, if_pos h4])
    have d5 : decide ((p : Int) > 256) = true := decide_eq_true (by omega)
    have d6 : decide (256 < p) = true := decide_eq_true (by omega)
    clear h3
    go_enter Try.func35, Try.ntmps35
    go_wp2_with (go_at_call 57; refine HP.out.mono ?_; rintro e w' ⟨rfl, hw⟩; subst hw)
    go_ret
    exact ⟨by rw [HE.out]; rfl, Below.refl _ _⟩
  · have HE : Hid (fieldE p = 0) := Lib.hid (by unfold fieldE; rw [if_pos h3, if_neg (by omega)])
    have d5 : decide ((p : Int) > 256) = false := decide_eq_false (by omega)
    have d6 : decide (256 < p) = false := decide_eq_false (by omega)
    clear h3
    go_enter Try.func35, Try.ntmps35
    go_wp2_with (go_at_call 57; refine HP.out.mono ?_; rintro e w' ⟨rfl, hw⟩; subst hw)
    go_ret
    exact ⟨by rw [HE.out]; rfl, Below.refl _ _⟩

/-- a modulus of layer 25 -/
def modB (t : Nat) : Bool := decide (3 ≤ t) && (decide (t ≤ 2147483647) && decide (t % 2 = 1))
theorem modB_yes {t : Nat} : modB t = true ↔ 3 ≤ t ∧ t ≤ 2147483647 ∧ t % 2 = 1 := by
  unfold modB
  simp only [Bool.and_eq_true, decide_eq_true_eq]
theorem modB_case (t : Nat) : (t < 3 ∧ modB t = false) ∨ (3 ≤ t ∧ 2147483647 < t ∧ modB t = false) ∨ (3 ≤ t ∧ t ≤ 2147483647 ∧ t % 2 = 0 ∧ modB t = false) ∨ (3 ≤ t ∧ t ≤ 2147483647 ∧ t % 2 = 1 ∧ modB t = true) := by
  cases hb : modB t with
  | true =>
    have := modB_yes.1 hb
    exact .inr (.inr (.inr ⟨this.1, this.2.1, this.2.2, rfl⟩))
  | false =>
    have h : ¬ (3 ≤ t ∧ t ≤ 2147483647 ∧ t % 2 = 1) := fun h => by
      rw [modB_yes.2 h] at hb
      cases hb
    rcases Nat.lt_or_ge t 3 with h1 | h1
    · exact .inl ⟨h1, rfl⟩
    rcases Nat.lt_or_ge 2147483647 t with h2 | h2
    · exact .inr (.inl ⟨h1, h2, rfl⟩)
    · exact .inr (.inr (.inl ⟨h1, h2, by omega, rfl⟩))
theorem modulus25_any (t : Nat) (w : World) (ht : t ≤ 4294967295) : Calls Try.prog 39 #[.int .u32 t] w (RetP w (.bool (modB t))) := by
  rcases modB_case t with ⟨h1, h2⟩ | ⟨h1, h2, h3⟩ | ⟨h1, h2, h3, h4⟩ | ⟨h1, h2, h3, h4⟩
  · have HE := Lib.hid h2
    have d1 : decide ((t : Int) ≥ 3) = false := decide_eq_false (by omega)
    have d2 : decide (3 ≤ t) = false := decide_eq_false (by omega)
    clear h2
    go_enter Try.func39, Try.ntmps39
    go_wp2
    go_ret
    exact ⟨by rw [HE.out]; rfl, rfl⟩
  · have HE := Lib.hid h3
    have d1 : decide ((t : Int) ≥ 3) = true := decide_eq_true (by omega)
    have d2 : decide (3 ≤ t) = true := decide_eq_true (by omega)
    have d3 : decide ((t : Int) ≤ 2147483647) = false := decide_eq_false (by omega)
    have d4 : decide (t ≤ 2147483647) = false := decide_eq_false (by omega)
    clear h3
    go_enter Try.func39, Try.ntmps39
    go_wp2
    go_ret
    exact ⟨by rw [HE.out]; rfl, rfl⟩
  all_goals
    have HE := Lib.hid h4
    have d1 : decide ((t : Int) ≥ 3) = true := decide_eq_true (by omega)
    have d2 : decide (3 ≤ t) = true := decide_eq_true (by omega)
    have d3 : decide ((t : Int) ≤ 2147483647) = true := decide_eq_true (by omega)
    have d4 : decide (t ≤ 2147483647) = true := decide_eq_true (by omega)
    have hmi : (t : Int) % 2 = ((t % 2 : Nat) : Int) := by simp
    have hmt : (t : Int).tmod 2 = ((t % 2 : Nat) : Int) := by rw [Int.tmod_eq_emod_of_nonneg (by omega), hmi]
    rw [h3] at hmi hmt
    clear h4 h3
    go_enter Try.func39, Try.ntmps39
    go_wp2
    go_ret
    exact ⟨by rw [HE.out]; rfl, rfl⟩
theorem rmodulus25_any (t : Nat) (w : World) (ht : t ≤ 4294967295) : Calls Try.prog 38 #[.int .u32 t] w (RetP w (.bool (modB t))) := by
  rcases modB_case t with ⟨h1, h2⟩ | ⟨h1, h2, h3⟩ | ⟨h1, h2, h3, h4⟩ | ⟨h1, h2, h3, h4⟩
  · have HE := Lib.hid h2
    have d1 : decide ((t : Int) ≥ 3) = false := decide_eq_false (by omega)
    have d2 : decide (3 ≤ t) = false := decide_eq_false (by omega)
    clear h2
    go_enter Try.func38, Try.ntmps38
    go_wp2
    go_ret
    exact ⟨by rw [HE.out]; rfl, rfl⟩
  · have HE := Lib.hid h3
    have d1 : decide ((t : Int) ≥ 3) = true := decide_eq_true (by omega)
    have d2 : decide (3 ≤ t) = true := decide_eq_true (by omega)
    have d3 : decide ((t : Int) ≤ 2147483647) = false := decide_eq_false (by omega)
    have d4 : decide (t ≤ 2147483647) = false := decide_eq_false (by omega)
    clear h3
    go_enter Try.func38, Try.ntmps38
    go_wp2
    go_ret
    exact ⟨by rw [HE.out]; rfl, rfl⟩
  all_goals
    have HE := Lib.hid h4
    have d1 : decide ((t : Int) ≥ 3) = true := decide_eq_true (by omega)
    have d2 : decide (3 ≤ t) = true := decide_eq_true (by omega)
    have d3 : decide ((t : Int) ≤ 2147483647) = true := decide_eq_true (by omega)
    have d4 : decide (t ≤ 2147483647) = true := decide_eq_true (by omega)
    have hmi : (t : Int) % 2 = ((t % 2 : Nat) : Int) := by simp
    have hmt : (t : Int).tmod 2 = ((t % 2 : Nat) : Int) := by rw [Int.tmod_eq_emod_of_nonneg (by omega), hmi]
    rw [h3] at hmi hmt
    clear h4 h3
    go_enter Try.func38, Try.ntmps38
    go_wp2
    go_ret
    exact ⟨by rw [HE.out]; rfl, rfl⟩
/-- a number that is balanced for t -/
def balB (t : Nat) (x : Int) : Bool := decide (-((t / 2 : Nat) : Int) ≤ x) && decide (x ≤ ((t / 2 : Nat) : Int))
theorem balB_yes {t : Nat} {x : Int} : balB t x = true ↔ -((t / 2 : Nat) : Int) ≤ x ∧ x ≤ ((t / 2 : Nat) : Int) := by
  unfold balB
  simp only [Bool.and_eq_true, decide_eq_true_eq]
theorem half_facts {t : Nat} (h3 : 3 ≤ t) (h : t % 2 = 1) : ∃ h : Nat, t / 2 = h ∧ ((t : Int) - 1).tdiv 2 = (h : Int) ∧ ((t : Int) - 1) / 2 = (h : Int) ∧ (-((t : Int) - 1)).tdiv 2 = -(h : Int) ∧ 2 * h + 1 = t := by
  refine ⟨t / 2, rfl, ?_, by omega, ?_, by omega⟩
  · rw [Int.tdiv_eq_ediv_of_nonneg (by omega)]; omega
  · rw [Int.neg_tdiv, Int.tdiv_eq_ediv_of_nonneg (by omega)]; omega
theorem balanced25_any (t : Nat) (x : Int) (w : World) (h3 : 3 ≤ t) (ht : t ≤ 2147483647) (ho : t % 2 = 1) : Calls Try.prog 31 #[.int .u32 t, .int .i64 x] w (RetP w (.bool (balB t x))) := by
  obtain ⟨h, hh, q1, q2, q3, q4⟩ := half_facts h3 ho
  have hcase : (x < -(h : Int) ∧ balB t x = false) ∨ (-(h : Int) ≤ x ∧ (h : Int) < x ∧ balB t x = false) ∨ (-(h : Int) ≤ x ∧ x ≤ (h : Int) ∧ balB t x = true) := by
    unfold balB
    rw [hh]
    by_cases h1 : -(h : Int) ≤ x
    · by_cases h2 : x ≤ (h : Int)
      · exact .inr (.inr ⟨h1, h2, by simp [h1, h2]⟩)
      · exact .inr (.inl ⟨h1, by omega, by simp [h2]⟩)
    · exact .inl ⟨by omega, by simp [h1]⟩
  have hq4 : (t : Int) = 2 * (h : Int) + 1 := by omega
  rcases hcase with ⟨h1, h2⟩ | ⟨h1, h2, h5⟩ | ⟨h1, h2, h5⟩
  · have HE := Lib.hid h2
    have d1 : decide (x ≥ -(h : Int)) = false := decide_eq_false (by omega)
    have d2 : decide (-(h : Int) ≤ x) = false := decide_eq_false (by omega)
    clear h2 hh hq4 q4
    go_enter Try.func31, Try.ntmps31
    go_wp2
    go_ret
    exact ⟨by rw [HE.out]; rfl, rfl⟩
  · have HE := Lib.hid h5
    have d1 : decide (x ≥ -(h : Int)) = true := decide_eq_true (by omega)
    have d2 : decide (-(h : Int) ≤ x) = true := decide_eq_true (by omega)
    have d3 : decide (x ≤ (h : Int)) = false := decide_eq_false (by omega)
    clear h5 hh hq4 q4
    go_enter Try.func31, Try.ntmps31
    go_wp2
    go_ret
    exact ⟨by rw [HE.out]; rfl, rfl⟩
  · have HE := Lib.hid h5
    have d1 : decide (x ≥ -(h : Int)) = true := decide_eq_true (by omega)
    have d2 : decide (-(h : Int) ≤ x) = true := decide_eq_true (by omega)
    have d3 : decide (x ≤ (h : Int)) = true := decide_eq_true (by omega)
    clear h5 hh hq4 q4
    go_enter Try.func31, Try.ntmps31
    go_wp2
    go_ret
    exact ⟨by rw [HE.out]; rfl, rfl⟩
theorem rbalanced25_any (t : Nat) (x : Int) (w : World) (h3 : 3 ≤ t) (ht : t ≤ 2147483647) (ho : t % 2 = 1) : Calls Try.prog 26 #[.int .u32 t, .int .i64 x] w (RetP w (.bool (balB t x))) := by
  obtain ⟨h, hh, q1, q2, q3, q4⟩ := half_facts h3 ho
  have hcase : (x < -(h : Int) ∧ balB t x = false) ∨ (-(h : Int) ≤ x ∧ (h : Int) < x ∧ balB t x = false) ∨ (-(h : Int) ≤ x ∧ x ≤ (h : Int) ∧ balB t x = true) := by
    unfold balB
    rw [hh]
    by_cases h1 : -(h : Int) ≤ x
    · by_cases h2 : x ≤ (h : Int)
      · exact .inr (.inr ⟨h1, h2, by simp [h1, h2]⟩)
      · exact .inr (.inl ⟨h1, by omega, by simp [h2]⟩)
    · exact .inl ⟨by omega, by simp [h1]⟩
  have hq4 : (t : Int) = 2 * (h : Int) + 1 := by omega
  rcases hcase with ⟨h1, h2⟩ | ⟨h1, h2, h5⟩ | ⟨h1, h2, h5⟩
  · have HE := Lib.hid h2
    have d1 : decide (x ≥ -(h : Int)) = false := decide_eq_false (by omega)
    have d2 : decide (-(h : Int) ≤ x) = false := decide_eq_false (by omega)
    clear h2 hh hq4 q4
    go_enter Try.func26, Try.ntmps26
    go_wp2
    go_ret
    exact ⟨by rw [HE.out]; rfl, rfl⟩
  · have HE := Lib.hid h5
    have d1 : decide (x ≥ -(h : Int)) = true := decide_eq_true (by omega)
    have d2 : decide (-(h : Int) ≤ x) = true := decide_eq_true (by omega)
    have d3 : decide (x ≤ (h : Int)) = false := decide_eq_false (by omega)
    clear h5 hh hq4 q4
    go_enter Try.func26, Try.ntmps26
    go_wp2
    go_ret
    exact ⟨by rw [HE.out]; rfl, rfl⟩
  · have HE := Lib.hid h5
    have d1 : decide (x ≥ -(h : Int)) = true := decide_eq_true (by omega)
    have d2 : decide (-(h : Int) ≤ x) = true := decide_eq_true (by omega)
    have d3 : decide (x ≤ (h : Int)) = true := decide_eq_true (by omega)
    clear h5 hh hq4 q4
    go_enter Try.func26, Try.ntmps26
    go_wp2
    go_ret
    exact ⟨by rw [HE.out]; rfl, rfl⟩
theorem reduce25_any (t : Nat) (y : Int) (w : World) (h3 : 3 ≤ t) (ht : t ≤ 2147483647) (ho : t % 2 = 1) : Calls Try.prog 33 #[.int .u32 t, .int .i64 y] w (RetP w (.int .i64 (bal t y))) := by
  obtain ⟨a, ha, a1, a2, a3⟩ := tm_fact y (m := t) (by omega)
  obtain ⟨h, hh, q1, q2, q3, q4⟩ := half_facts h3 ho
  have hbal : ∀ z : Int, Cg t z y → -(h : Int) ≤ z → z ≤ (h : Int) → bal t y = z := fun z hz g1 g2 => bal_of ho hz (by rw [hh]; exact ⟨g1, g2⟩)
  have hq4 : (t : Int) = 2 * (h : Int) + 1 := by omega
  have ht0 : ¬ t = 0 := by omega
  have hcase : (h : Int) < a ∨ (a ≤ (h : Int) ∧ a < -(h : Int)) ∨ (a ≤ (h : Int) ∧ -(h : Int) ≤ a) := by omega
  rcases hcase with h1 | ⟨h1, h2⟩ | ⟨h1, h2⟩
  · have e1 : decide (a > (h : Int)) = true := decide_eq_true (by omega)
    have e2 : decide ((h : Int) < a) = true := decide_eq_true (by omega)
    have HE := Lib.hid (hbal (a - t) (Cg.trans ⟨-1, by omega⟩ a3) (by omega) (by omega))
    clear a3 hbal hq4 hh q4
    go_enter Try.func33, Try.ntmps33
    go_wp2
    go_ret
    exact ⟨by rw [HE.out]; rfl, rfl⟩
  · have e1 : decide (a > (h : Int)) = false := decide_eq_false (by omega)
    have e2 : decide ((h : Int) < a) = false := decide_eq_false (by omega)
    have e3 : decide (a < -(h : Int)) = true := decide_eq_true (by omega)
    have HE := Lib.hid (hbal (a + t) (Cg.trans ⟨1, by omega⟩ a3) (by omega) (by omega))
    clear a3 hbal hq4 hh q4
    go_enter Try.func33, Try.ntmps33
    go_wp2
    go_ret
    exact ⟨by rw [HE.out]; rfl, rfl⟩
  · have e1 : decide (a > (h : Int)) = false := decide_eq_false (by omega)
    have e2 : decide ((h : Int) < a) = false := decide_eq_false (by omega)
    have e3 : decide (a < -(h : Int)) = false := decide_eq_false (by omega)
    have HE := Lib.hid (hbal a a3 (by omega) (by omega))
    clear a3 hbal hq4 hh q4
    go_enter Try.func33, Try.ntmps33
    go_wp2
    go_ret
    exact ⟨by rw [HE.out]; rfl, rfl⟩
end Go.Proofs.Ytmidpholmgmdpaa

namespace Go.Proofs.Ytmidpholmgmdpaa
open Go.RowKit

theorem e32 : ElemOf Try.prog 51 22 .u32 4 := ⟨Try.underlying51, by kernel_rfl⟩

def TrimRet (A : Option Addr) (n c : Nat) (f : Nat → Nat) (w : World) (e : Ending) (w' : World) : Prop := e = .returned (.slice A (tl f n) c) ∧ w = w'

set_option maxHeartbeats 400000 in
theorem trim_any (A : Option Addr) (n c : Nat) (f : Nat → Nat) (w : World) (lo hi : Nat) (h : Sq .u32 w lo hi A n f) (hc : n ≤ c) (hn : n ≤ 1000000) :
    Calls Try.prog 56 #[.slice A n c] w (TrimRet A n c f w) := by
  go_enter Try.func56, Try.ntmps56
  go_wp2
  go_loop [0] (fun t => ∃ k : Nat, k ≤ n ∧ t = .slice A k c ∧ (∀ j, k ≤ j → j < n → f j = 0)) (fun t => match t with | .slice _ n _ => n | _ => 0)
  case atStart => exact ⟨n, by omega, rfl, fun j h1 h2 => by omega⟩
  case round =>
    obtain ⟨k, hk, rfl, hz⟩ := hrel
    have HZ := Lib.hid hz
    clear hz
    by_cases hk0 : 0 < k
    · obtain ⟨b, off, rfl, _, _, hcell⟩ := h.2 (by omega)
      have hc1 := hcell (k-1) (by omega)
      obtain ⟨x, hx⟩ : ∃ x, f (k-1) = x := ⟨_, rfl⟩
      rw [hx] at hc1
      have HX := Lib.hid hx
      clear hx hcell h
      have hkz : ((k : Int) - 1).toNat = k - 1 := by omega
      go_wp2
      · have hx0 : x = 0 := by
          have h0 : ((x : Int) == 0) = true := by assumption
          simpa using h0
        go_round
        case rel =>
          refine ⟨k - 1, by omega, rfl, fun j h1 h2 => ?_⟩
          rcases Nat.lt_or_ge j k with h | h
          · rw [show j = k - 1 from by omega, HX.out, hx0]
          · exact HZ.out j h h2
        case measure => simp; omega
      · have hx0 : x ≠ 0 := by
          have h0 : ((x : Int) == 0) = false := by assumption
          simpa using h0
        go_ret
        exact ⟨by rw [tl_unique hk HZ.out (fun _ => by rw [HX.out]; exact hx0)]; rfl, rfl⟩
    · obtain rfl : k = 0 := by omega
      go_wp2
      go_ret
      exact ⟨by rw [tl_unique hk HZ.out (fun h => absurd h (Nat.lt_irrefl 0))]; rfl, rfl⟩
end Go.Proofs.Ytmidpholmgmdpaa

namespace Go.Proofs.Ytmidpholmgmdpaa
open Go.RowKit Go.Shelf
set_option linter.unusedVariables false

/-- a pair of places below n, the greater one first -/
abbrev Pair (n : Nat) := { p : Nat × Nat // p.2 < p.1 ∧ p.1 < n }
def encP {n : Nat} (x : Pair n) : Array Value := #[.int .i64 (x.1.1 : Int), .int .i64 (x.1.2 : Int)]
/-- all pairs have come with the first below i, and those of i with the second below k -/
def Came {n : Nat} (i k : Nat) (xs : List (Pair n)) : Prop := (∀ x : Pair n, x.1.1 < i ∨ x.1.1 = i ∧ x.1.2 < k → x ∈ xs) ∧ xs.length ≤ i * n + k

theorem Came.zero {n : Nat} : Came (n := n) 0 0 [] := ⟨fun x h => by omega, by simp⟩
theorem Came.next {n i k : Nat} {xs : List (Pair n)} (h : Came i k xs) (hk : i = k) (hi : i < n) : Came (i + 1) 0 xs := by
  subst hk
  refine ⟨fun x hx => h.1 x ?_, ?_⟩
  · have := x.2
    omega
  · have := h.2
    rw [Nat.succ_mul]
    omega
theorem Came.snoc {n i k : Nat} {xs : List (Pair n)} (h : Came i k xs) (hk : k < i) (hi : i < n) : Came i (k + 1) (xs ++ [⟨(i, k), hk, hi⟩]) := by
  refine ⟨fun x hx => ?_, ?_⟩
  · rw [List.mem_append, List.mem_singleton]
    by_cases h1 : x.1.1 = i ∧ x.1.2 = k
    · refine .inr (Subtype.ext ?_)
      obtain ⟨⟨a, b⟩, hab⟩ := x
      simp only at h1 ⊢
      rw [h1.1, h1.2]
    · exact .inl (h.1 x (by omega))
  · have := h.2
    simp
    omega
theorem Came.room {n i k : Nat} {xs : List (Pair n)} (h : Came i k xs) (hk : k < i) (hi : i < n) : xs.length < n * n := by
  have h1 := h.2
  have h2 : (i + 1) * n ≤ n * n := Nat.mul_le_mul_right n hi
  rw [Nat.succ_mul] at h2
  omega

theorem pairs_any (n : Int) (w : World) : Calls Try.prog 51 #[.int .i64 n] w fun e w' => e = .returned (.func (.func 65) #[] #[.pointer (some ⟨w.heap.size, 0, none⟩)]) ∧ w' = w.alloc (.cells #[.int .i64 n] 3) := by
  go_enter Try.func51, Try.ntmps51
  go_wp2
  go_ret
  exact ⟨rfl, rfl⟩

set_option maxHeartbeats 1000000 in
theorem pairs_stops {Kp : World → World → Prop} (F : Fence) (m : Nat) (hF : F.fn 65) (hro : F.round = none) (hm : 1 ≤ m) (n b : Nat) (w : World) (hb : b < w.heap.size) (hn : n ≤ 9223372036854775807)
    (hc : w.cell? ⟨b, 0, none⟩ = some (.int .i64 (n : Int))) :
    SeqStopsK F m Try.prog 65 #[.pointer (some ⟨b, 0, none⟩)] (encP (n := n)) Kp (fun xs => Came n 0 xs) (fun _ => True) (n * n) w := fun l J Jx W hW hJ hJx hY h0 => by
  have hcW : W.cell? ⟨b, 0, none⟩ = some (.int .i64 (n : Int)) := (hW.cell (p := ⟨b, 0, none⟩) hb).trans hc
  refine callsIn_of_wp Try.func65 rfl hF ?_ hro
  simp only [Try.ntmps65, List.size_toArray, List.length_cons, List.length_nil, Nat.reduceAdd, Nat.reduceSub, Array.replicate_succ, Array.replicate_zero, List.push_toArray, List.append_toArray, List.nil_append, List.cons_append]
  gi_wp2
  gi_loopw [6] (fun p wr => ∃ (i : Nat) (pre : List (Pair n)), p = .int .i64 (i : Int) ∧ i ≤ n ∧ Came i 0 pre ∧ J pre wr) (fun p _ => n - (intOf p).toNat)
  case atStart => exact ⟨0, [], rfl, Nat.zero_le _, Came.zero, h0⟩
  case round =>
    obtain ⟨i, pre, rfl, hi, hcm, hJs⟩ := hrel
    by_cases hin : i < n
    · gi_wp2
      gi_loopw [10] (fun p wr => ∃ (k : Nat) (pre : List (Pair n)), p = .int .i64 (k : Int) ∧ k ≤ i ∧ Came i k pre ∧ J pre wr) (fun p _ => i - (intOf p).toNat)
      case atStart => exact ⟨0, pre, rfl, Nat.zero_le _, hcm, hJs⟩
      case round =>
        clear hcm hJs
        obtain ⟨k, pre, rfl, hk, hcm, hJs⟩ := hrel
        by_cases hki : k < i
        · obtain ⟨fn, tmps, assign, body, hy, hR⟩ := hY pre ⟨(i, k), hki, hin⟩ _ hJs (hcm.room hki hin)
          dsimp only [encP] at hy
          gi_wp2
          refine hR.mono ?_
          rintro e W1 (⟨rfl, hJ1, _⟩ | ⟨rfl, hx1⟩)
          · gi_wp2
            go_roundw
            case rel => exact ⟨k + 1, _, rfl, hki, hcm.snoc hki hin, hJ1⟩
            case measure => simp only [intOf]; omega
          · gi_wp2
            refine bodyPost_ret (results_none rfl _ _ _) rfl ?_
            exact ⟨⟨_, rfl⟩, .inr ⟨_, trivial, hx1⟩⟩
        · gi_wp2
          go_roundw
          case rel => exact ⟨i + 1, _, rfl, hin, hcm.next (by omega) hin, hJs⟩
          case measure => simp only [intOf]; omega
    · obtain rfl : i = n := by omega
      gi_wp2
      go_end0
      exact ⟨⟨_, rfl⟩, .inl ⟨pre, hcm, hJs⟩⟩
end Go.Proofs.Ytmidpholmgmdpaa
