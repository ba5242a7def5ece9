/- The contracts of the reference's Polynomial and Value of layer 25. -/
import Derived.Test.YtmidpholmgmdpaaAw25
namespace Go.Proofs.Ytmidpholmgmdpaa
open Go.RowKit
set_option linter.unusedVariables false

set_option maxRecDepth 100000 in
set_option maxHeartbeats 4000000 in
theorem rpoly25_any (t m c hi : Nat) (A : Option Addr) (a : Nat → Int) (w : World) (ht : t ≤ 4294967295) (ha : Z.Sq .i64 w 0 hi A m a) (hhi : hi ≤ w.heap.size) (hm9 : m ≤ 9223372036854775807) :
    Calls Try.prog 14 #[.int .u32 t, .slice A m c] w (RetP w (.int .i64 (polyE t m a))) := by
  have HM := Lib.hid (rmodulus25_any t w ht)
  have HA := Lib.hid ha
  clear ha
  by_cases hm : modB t = true
  rotate_left
  · have hmf : modB t = false := by simpa using hm
    have HE : Hid (polyE t m a = 2) := Lib.hid (by unfold polyE; rw [if_neg hm])
    rw [hmf] at HM
    clear hm hmf
    go_enter Try.func14, Try.ntmps14
    go_wp2_with (go_at_call 38; refine HM.out.mono ?_; rintro e w' ⟨rfl, hw⟩; subst hw)
    go_ret
    exact ⟨by rw [HE.out]; rfl, rfl⟩
  obtain ⟨ht3, htm, hodd⟩ := modB_yes.1 hm
  have HMB := Lib.hid hm
  rw [hm] at HM
  clear hm
  by_cases hbig : 256 < m
  · have HE : Hid (polyE t m a = 3) := Lib.hid (by unfold polyE; rw [if_pos HMB.out, if_pos hbig])
    have e1 : decide ((m : Int) > 256) = true := decide_eq_true (by omega)
    have e2 : decide (256 < m) = true := decide_eq_true (by omega)
    go_enter Try.func14, Try.ntmps14
    go_wp2_with (go_at_call 38; refine HM.out.mono ?_; rintro e w' ⟨rfl, hw⟩; subst hw)
    go_ret
    exact ⟨by rw [HE.out]; rfl, rfl⟩
  have HNB := Lib.hid hbig
  have e1 : decide ((m : Int) > 256) = false := decide_eq_false (by omega)
  have e2 : decide (256 < m) = false := decide_eq_false (by omega)
  go_enter Try.func14, Try.ntmps14
  go_wp2_with (go_at_call 38; refine HM.out.mono ?_; rintro e w' ⟨rfl, hw⟩; subst hw)
  go_loop [5] (fun I => ∃ i : Nat, I = .int .i64 (i : Int) ∧ i ≤ m ∧ ∀ j, j < i → balB t (a j) = true) (fun I => m - (intOf I).toNat)
  case atStart => exact ⟨0, rfl, Nat.zero_le _, fun j hj => by omega⟩
  case round =>
    obtain ⟨i, rfl, him, hall⟩ := hrel
    have HAL := Lib.hid hall
    clear hall
    by_cases hin : i < m
    · have e3 : decide ((i : Int) < (m : Int)) = true := decide_eq_true (by omega)
      obtain ⟨g, off, rfl, _, hg, hcell⟩ := HA.out.2 (by omega)
      have k1 := hcell i hin
      obtain ⟨v, hv⟩ : ∃ v, a i = v := ⟨_, rfl⟩
      rw [hv] at k1
      have HBA := Lib.hid (rbalanced25_any t v w ht3 htm hodd)
      have i0 : 0 ≤ (i : Int) := by omega
      have i1 : (i : Int) < (m : Int) := by omega
      cases hbv : balB t v with
      | false =>
        rw [hbv] at HBA
        have HE : Hid (polyE t m a = 2) := Lib.hid (by
          unfold polyE
          rw [if_pos HMB.out, if_neg HNB.out, if_neg]
          intro h
          have := h.1 i hin
          rw [hv, hbv] at this
          cases this)
        clear hcell hv hbv
        go_wp2_with (go_at_call 26; refine HBA.out.mono ?_; rintro e w' ⟨rfl, hw⟩; subst hw)
        go_ret
        exact ⟨by rw [HE.out]; rfl, rfl⟩
      | true =>
        rw [hbv] at HBA
        have HALN : Hid (∀ j, j < i + 1 → balB t (a j) = true) := Lib.hid fun j hj => by
          rcases Nat.lt_or_eq_of_le (Nat.le_of_lt_succ hj) with h6 | h6
          · exact HAL.out j h6
          · rw [h6, hv]; exact hbv
        clear hcell hv hbv
        go_wp2_with (go_at_call 26; refine HBA.out.mono ?_; rintro e w' ⟨rfl, hw⟩; subst hw)
        go_round
        case rel => exact ⟨i + 1, by go_num, hin, HALN.out⟩
        case measure => simp only [intOf]; omega
    · obtain rfl : m = i := by omega
      have e3 : decide ((m : Int) < (m : Int)) = false := decide_eq_false (by omega)
      have hcase : m = 0 ∨ (0 < m ∧ a (m - 1) = 0) ∨ (0 < m ∧ a (m - 1) ≠ 0) := by omega
      rcases hcase with hm0 | ⟨hm0, ham⟩ | ⟨hm0, ham⟩
      · have d1 : decide ((m : Int) > 0) = false := decide_eq_false (by omega)
        have d2 : decide (0 < m) = false := decide_eq_false (by omega)
        have HPO : Hid (polyE t m a = 0) := Lib.hid (by
          unfold polyE
          rw [if_pos HMB.out, if_neg HNB.out, if_pos]
          exact ⟨HAL.out, fun h => by omega⟩)
        clear hm0
        go_wp2
        go_ret
        exact ⟨by rw [HPO.out]; rfl, rfl⟩
      all_goals
        have d1 : decide ((m : Int) > 0) = true := decide_eq_true (by omega)
        have d2 : decide (0 < m) = true := decide_eq_true (by omega)
        obtain ⟨g, off, rfl, _, hg, hcell⟩ := HA.out.2 (by omega)
        have k1 := hcell (m - 1) (by omega)
        have i0 : 0 ≤ (m : Int) - 1 := by omega
        have i1 : (m : Int) - 1 < (m : Int) := by omega
        have i2 : ((m : Int) - 1).toNat = m - 1 := by omega
      · rw [ham] at k1
        have HE : Hid (polyE t m a = 2) := Lib.hid (by
          unfold polyE
          rw [if_pos HMB.out, if_neg HNB.out, if_neg]
          intro h
          exact h.2 hm0 ham)
        clear hcell ham
        go_wp2
        go_ret
        exact ⟨by rw [HE.out]; rfl, rfl⟩
      · have dk : (a (m - 1) == 0) = false := by rw [beq_eq_false_iff_ne]; exact ham
        have HPO : Hid (polyE t m a = 0) := Lib.hid (by
          unfold polyE
          rw [if_pos HMB.out, if_neg HNB.out, if_pos]
          exact ⟨HAL.out, fun _ => ham⟩)
        clear hcell ham
        go_wp2
        go_ret
        exact ⟨by rw [HPO.out]; rfl, rfl⟩

/-- the powers and the sums of Value -/
def pwT (t : Nat) (x : Int) : Nat → Int
  | 0 => 1
  | i + 1 => (pwT t x i * x).tmod t
def smT (t : Nat) (x : Int) (a : Nat → Int) : Nat → Int
  | 0 => 0
  | i + 1 => (smT t x a i + a i * pwT t x i).tmod t
theorem tmod_bd {t : Nat} (ht : 3 ≤ t) (z : Int) : -(t : Int) < z.tmod t ∧ z.tmod t < t := by
  obtain ⟨a, ha, a1, a2, _⟩ := tm_fact z (m := t) (by omega)
  rw [ha]
  omega
theorem pwT_bd {t : Nat} (ht : 3 ≤ t) (x : Int) (i : Nat) : -(t : Int) < pwT t x i ∧ pwT t x i < t := by
  cases i with
  | zero => show -(t : Int) < 1 ∧ (1 : Int) < t; omega
  | succ i => exact tmod_bd ht _
theorem smT_bd {t : Nat} (ht : 3 ≤ t) (x : Int) (a : Nat → Int) (i : Nat) : -(t : Int) < smT t x a i ∧ smT t x a i < t := by
  cases i with
  | zero => show -(t : Int) < 0 ∧ (0 : Int) < t; omega
  | succ i => exact tmod_bd ht _
theorem pwT_cg (t : Nat) (x : Int) (i : Nat) : Cg t (pwT t x i) (x ^ i) := by
  induction i with
  | zero => rw [Int.pow_zero]; exact Cg.refl t _
  | succ i ih => rw [Int.pow_succ]; exact (tmod_cg t _).trans (ih.mul (Cg.refl t x))
theorem smT_cg (t : Nat) (x : Int) (a : Nat → Int) (i : Nat) : Cg t (smT t x a i) (zsum (fun j => a j * x ^ j) i) := by
  induction i with
  | zero => exact Cg.refl t _
  | succ i ih => exact (tmod_cg t _).trans (ih.add ((Cg.refl t (a i)).mul (pwT_cg t x i)))
theorem mul_b31 {x y : Int} (hx : -2147483648 ≤ x ∧ x ≤ 2147483648) (hy : -2147483648 ≤ y ∧ y ≤ 2147483648) : -4611686018427387904 ≤ x * y ∧ x * y ≤ 4611686018427387904 := by
  have h1 : x.natAbs ≤ 2147483648 := by omega
  have h2 : y.natAbs ≤ 2147483648 := by omega
  have h3 : (x * y).natAbs ≤ 2147483648 * 2147483648 := by
    rw [Int.natAbs_mul]
    exact Nat.mul_le_mul h1 h2
  omega
/-- the value of a polynomial -/
def valZ (t : Nat) (a : Nat → Int) (m : Nat) (x : Int) : Int := bal t (zsum (fun j => a j * x ^ j) m)
set_option maxRecDepth 100000 in
set_option maxHeartbeats 4000000 in
theorem rvalue25_any (t m c hi : Nat) (A : Option Addr) (a : Nat → Int) (x : Int) (w : World) (ht3 : 3 ≤ t) (htm : t ≤ 2147483647) (hodd : t % 2 = 1) (ha : Z.Sq .i64 w 0 hi A m a) (hhi : hi ≤ w.heap.size) (hm9 : m ≤ 9223372036854775807) (hab : ∀ j, -2147483648 ≤ a j ∧ a j ≤ 2147483648) (hx : -2147483648 ≤ x ∧ x ≤ 2147483648) :
    Calls Try.prog 15 #[.int .u32 t, .slice A m c, .int .i64 x] w (RetP w (.int .i64 (valZ t a m x))) := by
  have HA := Lib.hid ha
  have HAB := Lib.hid hab
  have htp : ¬ t = 0 := by omega
  clear ha hab
  go_enter Try.func15, Try.ntmps15
  go_wp2
  go_loop [7, 8, 9] (fun S P I => ∃ i : Nat, I = .int .i64 (i : Int) ∧ i ≤ m ∧ S = .int .i64 (smT t x a i) ∧ P = .int .i64 (pwT t x i)) (fun _ _ I => m - (intOf I).toNat)
  case atStart => exact ⟨0, rfl, Nat.zero_le _, rfl, rfl⟩
  case round =>
    obtain ⟨i, rfl, him, rfl, rfl⟩ := hrel
    have b1 := smT_bd ht3 x a i
    have b2 := pwT_bd ht3 x i
    by_cases hin : i < m
    · have e3 : decide ((i : Int) < (m : Int)) = true := decide_eq_true (by omega)
      obtain ⟨g, off, rfl, _, hg, hcell⟩ := HA.out.2 (by omega)
      have k1 := hcell i hin
      have b3 := HAB.out i
      have hn1 : smT t x a (i + 1) = (smT t x a i + a i * pwT t x i).tmod t := rfl
      have hn2 : pwT t x (i + 1) = (pwT t x i * x).tmod t := rfl
      obtain ⟨v, hv⟩ : ∃ v, a i = v := ⟨_, rfl⟩
      obtain ⟨u, hu⟩ : ∃ v, smT t x a i = v := ⟨_, rfl⟩
      obtain ⟨q, hq⟩ : ∃ v, pwT t x i = v := ⟨_, rfl⟩
      rw [hv] at k1 b3 hn1
      rw [hu] at b1 hn1
      rw [hq] at b2 hn1 hn2
      rw [hu, hq]
      have c1 := mul_b31 b3 (show -2147483648 ≤ q ∧ q ≤ 2147483648 by omega)
      have c2 := mul_b31 (show -2147483648 ≤ q ∧ q ≤ 2147483648 by omega) hx
      obtain ⟨z, hz⟩ : ∃ z, v * q = z := ⟨_, rfl⟩
      obtain ⟨y, hy⟩ : ∃ z, q * x = z := ⟨_, rfl⟩
      rw [hz] at c1 hn1
      rw [hy] at c2 hn2
      obtain ⟨z2, hz2, d1, d2, _⟩ := tm_fact (u + z) (m := t) (by omega)
      obtain ⟨y2, hy2, d3, d4, _⟩ := tm_fact y (m := t) (by omega)
      have HN := Lib.hid (And.intro (hn1.trans hz2) (hn2.trans hy2))
      have w1 : wrap64 (v * q) = z := by rw [hz]; exact wrap64_eq (by omega) (by omega)
      have w2 : wrap64 (u + z) = u + z := wrap64_eq (by omega) (by omega)
      have w3 : wrap64 (q * x) = y := by rw [hy]; exact wrap64_eq (by omega) (by omega)
      have i0 : 0 ≤ (i : Int) := by omega
      have i1 : (i : Int) < (m : Int) := by omega
      clear hcell hv hu hq hn1 hn2 hz hy
      go_wp2
      go_round
      case rel => exact ⟨i + 1, by go_num, hin, by rw [HN.out.1], by rw [HN.out.2]⟩
      case measure => simp only [intOf]; omega
    · obtain rfl : m = i := by omega
      have e3 : decide ((m : Int) < (m : Int)) = false := decide_eq_false (by omega)
      have hb : bal t (smT t x a m) = valZ t a m x := bal_congr (smT_cg t x a m)
      obtain ⟨v, hv⟩ : ∃ v, valZ t a m x = v := ⟨_, rfl⟩
      rw [hv] at hb
      have HV := Lib.hid hv
      have HRD : Hid (∀ W : World, Calls Try.prog 37 #[.int .i64 (smT t x a m), .int .i64 (t : Int)] W (RetP W (.int .i64 v))) := Lib.hid fun W => hb ▸ rbal8_any (smT t x a m) t W ht3 htm hodd
      clear hb hv
      go_wp2_with (go_at_call 37; refine (HRD.out _).mono ?_; rintro e w' ⟨rfl, hw⟩; subst hw)
      go_ret
      exact ⟨by rw [HV.out]; rfl, rfl⟩
end Go.Proofs.Ytmidpholmgmdpaa
