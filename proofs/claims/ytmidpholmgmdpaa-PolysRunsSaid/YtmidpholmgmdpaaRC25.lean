/- The contracts of the reference's step and Check of layer 25 (polys). -/
import Derived.Test.YtmidpholmgmdpaaC25
namespace Go.Proofs.Ytmidpholmgmdpaa
open Go.RowKit
set_option linter.unusedVariables false

open Classical in
/-- whether a step is one, as a value -/
noncomputable def stepB (t many : Nat) (s : PS) : Bool := decide (stepOk t many s)
open Classical in
theorem stepB_yes {t many : Nat} {s : PS} : stepB t many s = true ↔ stepOk t many s := by unfold stepB; exact decide_eq_true_iff
open Classical in
theorem stepB_no {t many : Nat} {s : PS} : stepB t many s = false ↔ ¬ stepOk t many s := by unfold stepB; exact decide_eq_false_iff_not

set_option maxRecDepth 100000 in
set_option maxHeartbeats 40000000 in
theorem rstep25_any (t many : Nat) (sm : Bool) (sa sb sf : Int) (sn : Nat) (cs : Nat → Int) (C : Option Addr) (c hi : Nat) (w : World) (h3 : 3 ≤ t) (ht : t ≤ 2147483647) (ho : t % 2 = 1) (hm : many ≤ 1000) (hsq : Z.Sq .i64 w 0 hi C sn cs) (hhi : hi ≤ w.heap.size) (hsn : sn ≤ 9223372036854775807) :
    Calls Try.prog 45 #[.int .u32 t, .agg #[.bool sm, .int .i64 sa, .int .i64 sb, .int .i64 sf, .slice C sn c], .int .i64 many] w (RetV w (.bool (stepB t many ⟨sm, sa, sb, sf, sn, cs⟩))) := by
  have HQ := Lib.hid hsq
  have HH := Lib.hid hhi
  have HBA := Lib.hid (fun (x : Int) (W : World) => rbalanced25_any t x W h3 ht ho)
  clear hsq hhi
  cases sm
  · have hcase : sa ≠ 0 ∨ (sa = 0 ∧ sb ≠ 0) ∨ (sa = 0 ∧ sb = 0 ∧ balB t sf = false) ∨ (sa = 0 ∧ sb = 0 ∧ balB t sf = true ∧ many < sn) ∨ (sa = 0 ∧ sb = 0 ∧ balB t sf = true ∧ sn ≤ many) := by
      cases balB t sf <;> simp <;> omega
    rcases hcase with h1 | ⟨rfl, h1⟩ | ⟨rfl, rfl, h1⟩ | ⟨rfl, rfl, h1, h2⟩ | ⟨rfl, rfl, h1, h2⟩
    · have HE : Hid (stepB t many ⟨false, sa, sb, sf, sn, cs⟩ = false) := Lib.hid (stepB_no.2 fun h => by unfold stepOk at h; rw [if_neg Bool.false_ne_true] at h; exact h1 h.1)
      have d0 : decide (sa ≠ 0) = true := decide_eq_true h1
      go_enter Try.func45, Try.ntmps45
      go_wp2
      go_ret
      exact ⟨by rw [HE.out]; rfl, (Below.refl _ w).alloc (Nat.le_refl _) _⟩
    · have HE : Hid (stepB t many ⟨false, 0, sb, sf, sn, cs⟩ = false) := Lib.hid (stepB_no.2 fun h => by unfold stepOk at h; rw [if_neg Bool.false_ne_true] at h; exact h1 h.2.1)
      have d0 : decide (sb ≠ 0) = true := decide_eq_true h1
      go_enter Try.func45, Try.ntmps45
      go_wp2
      go_ret
      exact ⟨by rw [HE.out]; rfl, (Below.refl _ w).alloc (Nat.le_refl _) _⟩
    · have HBF := Lib.hid (fun W => h1 ▸ HBA.out sf W)
      · have HE : Hid (stepB t many ⟨false, 0, 0, sf, sn, cs⟩ = false) := Lib.hid (stepB_no.2 fun h => by unfold stepOk at h; rw [if_neg Bool.false_ne_true] at h; exact Bool.false_ne_true (h1.symm.trans h.2.2.2.1))
        go_enter Try.func45, Try.ntmps45
        go_wp2_with (go_at_call 26; refine (HBF.out _).mono ?_; rintro e w' ⟨rfl, hw⟩; subst hw)
        go_ret
        exact ⟨by rw [HE.out]; rfl, (Below.refl _ w).alloc (Nat.le_refl _) _⟩
    · have HBF := Lib.hid (fun W => h1 ▸ HBA.out sf W)
      · have HE : Hid (stepB t many ⟨false, 0, 0, sf, sn, cs⟩ = false) := Lib.hid (stepB_no.2 fun h => by unfold stepOk at h; rw [if_neg Bool.false_ne_true] at h; exact absurd h.2.2.1 (Nat.not_le.2 h2))
        have d0 : decide ((sn : Int) > (many : Int)) = true := decide_eq_true (by omega)
        have d1 : decide ((many : Int) < (sn : Int)) = true := decide_eq_true (by omega)
        go_enter Try.func45, Try.ntmps45
        go_wp2_with (go_at_call 26; refine (HBF.out _).mono ?_; rintro e w' ⟨rfl, hw⟩; subst hw)
        go_ret
        exact ⟨by rw [HE.out]; rfl, (Below.refl _ w).alloc (Nat.le_refl _) _⟩
    · have HBF := Lib.hid (fun W => h1 ▸ HBA.out sf W)
      have HH1 := Lib.hid h1
      have d0 : decide ((sn : Int) > (many : Int)) = false := decide_eq_false (by omega)
      have d1 : decide ((many : Int) < (sn : Int)) = false := decide_eq_false (by omega)
      have d2 : decide (many < sn) = false := decide_eq_false (by omega)
      clear h1
      go_enter Try.func45, Try.ntmps45
      go_wp2_with (go_at_call 26; refine (HBF.out _).mono ?_; rintro e w' ⟨rfl, hw⟩; subst hw)
      have HB := Lib.hid ((Below.refl w.heap.size w).alloc (Nat.le_refl _) (.cells #[.bool false, .int .i64 0, .int .i64 0, .int .i64 sf, .slice C sn c] 37))
      have HQ9 := Lib.hid (HQ.out.below HB.out HH.out)
      have k4 : (w.alloc (.cells #[.bool false, .int .i64 0, .int .i64 0, .int .i64 sf, .slice C sn c] 37)).cell? ⟨w.heap.size, 4, none⟩ = some (.slice C sn c) := by rw [World.cell?_alloc_new]; rfl
      obtain ⟨w9, hw9⟩ : ∃ w9, w9 = (w.alloc (.cells #[.bool false, .int .i64 0, .int .i64 0, .int .i64 sf, .slice C sn c] 37)) := ⟨_, rfl⟩
      rw [← hw9] at HQ9 HB k4 ⊢
      clear hw9
      go_loopw [7] (fun I w' => ∃ j : Nat, I = .int .i64 (j : Int) ∧ j ≤ sn ∧ (∀ q, q < j → balB t (cs q) = true) ∧ w' = w9) (fun I _ => sn - (intOf I).toNat)
      case atStart => exact ⟨0, rfl, Nat.zero_le _, (fun q hq => by omega), rfl⟩
      case round =>
        obtain ⟨j, rfl, hj, hbal, rfl⟩ := hrel
        have HBL := Lib.hid hbal
        clear hbal
        by_cases hjn : j < sn
        · have e5 : decide ((j : Int) < (sn : Int)) = true := decide_eq_true (by omega)
          obtain ⟨g2, off2, hC, _, hg2, hcell⟩ := HQ9.out.2 (by omega)
          have k5 := hcell j (by omega)
          obtain ⟨v, hv⟩ : ∃ v, cs j = v := ⟨_, rfl⟩
          rw [hv] at k5
          rw [hC] at k4
          have j0 : 0 ≤ (j : Int) := by omega
          have j1 : (j : Int) < (sn : Int) := by omega
          have HBV := Lib.hid (fun W => HBA.out v W)
          cases hbv : balB t v with
          | false =>
            rw [hbv] at HBV
            have HE : Hid (stepB t many ⟨false, 0, 0, sf, sn, cs⟩ = false) := Lib.hid (stepB_no.2 fun h => by unfold stepOk at h; rw [if_neg Bool.false_ne_true] at h; (have := h.2.2.2.2 j hjn; rw [show (⟨false, 0, 0, sf, sn, cs⟩ : PS).cs j = cs j from rfl, hv, hbv] at this; cases this))
            clear hcell hv hC hbv
            go_wp2_with (go_at_call 26; refine (HBV.out _).mono ?_; rintro e w' ⟨rfl, hw⟩; subst hw)
            go_ret
            exact ⟨by rw [HE.out]; rfl, HB.out⟩
          | true =>
            rw [hbv] at HBV
            have HBN : Hid (∀ q, q < j + 1 → balB t (cs q) = true) := Lib.hid fun q hq => by
              rcases Nat.lt_or_eq_of_le (Nat.le_of_lt_succ hq) with h6 | h6
              · exact HBL.out q h6
              · rw [h6, hv]; exact hbv
            clear hcell hv hC hbv
            go_wp2_with (go_at_call 26; refine (HBV.out _).mono ?_; rintro e w' ⟨rfl, hw⟩; subst hw)
            go_roundw
            case rel => exact ⟨j + 1, by go_num, hjn, HBN.out, by trivial⟩
            case measure => simp only [intOf]; omega
        · obtain rfl : sn = j := by omega
          have e5 : decide ((sn : Int) < (sn : Int)) = false := decide_eq_false (by omega)
          have HE : Hid (stepB t many ⟨false, 0, 0, sf, sn, cs⟩ = true) := Lib.hid (stepB_yes.2 (by unfold stepOk; rw [if_neg Bool.false_ne_true]; exact ⟨rfl, rfl, h2, HH1.out, HBL.out⟩))
          go_wp2
          go_ret
          exact ⟨by rw [HE.out]; rfl, HB.out⟩
  · have hcase : sa < 0 ∨ (0 ≤ sa ∧ (many : Int) ≤ sa) ∨ (0 ≤ sa ∧ sa < (many : Int) ∧ sb < 0) ∨ (0 ≤ sa ∧ sa < (many : Int) ∧ 0 ≤ sb ∧ (many : Int) ≤ sb) ∨ (0 ≤ sa ∧ sa < (many : Int) ∧ 0 ≤ sb ∧ sb < (many : Int) ∧ sf ≠ 0) ∨ (0 ≤ sa ∧ sa < (many : Int) ∧ 0 ≤ sb ∧ sb < (many : Int) ∧ sf = 0 ∧ 0 < sn) ∨ (0 ≤ sa ∧ sa < (many : Int) ∧ 0 ≤ sb ∧ sb < (many : Int) ∧ sf = 0 ∧ sn = 0) := by omega
    rcases hcase with h1 | ⟨h0, h1⟩ | ⟨h0, h4, h1⟩ | ⟨h0, h4, h5, h1⟩ | ⟨h0, h4, h5, h6, h1⟩ | ⟨h0, h4, h5, h6, rfl, h1⟩ | ⟨h0, h4, h5, h6, rfl, rfl⟩
    · have HE : Hid (stepB t many ⟨true, sa, sb, sf, sn, cs⟩ = false) := Lib.hid (stepB_no.2 fun h => by unfold stepOk at h; rw [if_pos rfl] at h; obtain ⟨⟨q1, q2, q3, q4⟩, q5, q6⟩ := h; simp only at q1 q2 q3 q4 q5 q6; omega)
      have d0 : decide (sa ≥ 0) = false := decide_eq_false (by omega)
      have d1 : decide (0 ≤ sa) = false := decide_eq_false (by omega)
      go_enter Try.func45, Try.ntmps45
      go_wp2
      go_ret
      exact ⟨by rw [HE.out]; rfl, (Below.refl _ w).alloc (Nat.le_refl _) _⟩
    · have HE : Hid (stepB t many ⟨true, sa, sb, sf, sn, cs⟩ = false) := Lib.hid (stepB_no.2 fun h => by unfold stepOk at h; rw [if_pos rfl] at h; obtain ⟨⟨q1, q2, q3, q4⟩, q5, q6⟩ := h; simp only at q1 q2 q3 q4 q5 q6; omega)
      have d0 : decide (sa ≥ 0) = true := decide_eq_true (by omega)
      have d1 : decide (0 ≤ sa) = true := decide_eq_true (by omega)
      have d2 : decide (sa < (many : Int)) = false := decide_eq_false (by omega)
      go_enter Try.func45, Try.ntmps45
      go_wp2
      go_ret
      exact ⟨by rw [HE.out]; rfl, (Below.refl _ w).alloc (Nat.le_refl _) _⟩
    · have HE : Hid (stepB t many ⟨true, sa, sb, sf, sn, cs⟩ = false) := Lib.hid (stepB_no.2 fun h => by unfold stepOk at h; rw [if_pos rfl] at h; obtain ⟨⟨q1, q2, q3, q4⟩, q5, q6⟩ := h; simp only at q1 q2 q3 q4 q5 q6; omega)
      have d0 : decide (sa ≥ 0) = true := decide_eq_true (by omega)
      have d1 : decide (0 ≤ sa) = true := decide_eq_true (by omega)
      have d2 : decide (sa < (many : Int)) = true := decide_eq_true (by omega)
      have d3 : decide (sb ≥ 0) = false := decide_eq_false (by omega)
      have d4 : decide (0 ≤ sb) = false := decide_eq_false (by omega)
      go_enter Try.func45, Try.ntmps45
      go_wp2
      go_ret
      exact ⟨by rw [HE.out]; rfl, (Below.refl _ w).alloc (Nat.le_refl _) _⟩
    · have HE : Hid (stepB t many ⟨true, sa, sb, sf, sn, cs⟩ = false) := Lib.hid (stepB_no.2 fun h => by unfold stepOk at h; rw [if_pos rfl] at h; obtain ⟨⟨q1, q2, q3, q4⟩, q5, q6⟩ := h; simp only at q1 q2 q3 q4 q5 q6; omega)
      have d0 : decide (sa ≥ 0) = true := decide_eq_true (by omega)
      have d1 : decide (0 ≤ sa) = true := decide_eq_true (by omega)
      have d2 : decide (sa < (many : Int)) = true := decide_eq_true (by omega)
      have d3 : decide (sb ≥ 0) = true := decide_eq_true (by omega)
      have d4 : decide (0 ≤ sb) = true := decide_eq_true (by omega)
      have d5 : decide (sb < (many : Int)) = false := decide_eq_false (by omega)
      go_enter Try.func45, Try.ntmps45
      go_wp2
      go_ret
      exact ⟨by rw [HE.out]; rfl, (Below.refl _ w).alloc (Nat.le_refl _) _⟩
    · have HE : Hid (stepB t many ⟨true, sa, sb, sf, sn, cs⟩ = false) := Lib.hid (stepB_no.2 fun h => by unfold stepOk at h; rw [if_pos rfl] at h; obtain ⟨⟨q1, q2, q3, q4⟩, q5, q6⟩ := h; simp only at q1 q2 q3 q4 q5 q6; omega)
      have d0 : decide (sa ≥ 0) = true := decide_eq_true (by omega)
      have d1 : decide (0 ≤ sa) = true := decide_eq_true (by omega)
      have d2 : decide (sa < (many : Int)) = true := decide_eq_true (by omega)
      have d3 : decide (sb ≥ 0) = true := decide_eq_true (by omega)
      have d4 : decide (0 ≤ sb) = true := decide_eq_true (by omega)
      have d5 : decide (sb < (many : Int)) = true := decide_eq_true (by omega)
      have d6 : decide (sf = 0) = false := decide_eq_false h1
      go_enter Try.func45, Try.ntmps45
      go_wp2
      go_ret
      exact ⟨by rw [HE.out]; rfl, (Below.refl _ w).alloc (Nat.le_refl _) _⟩
    · have HE : Hid (stepB t many ⟨true, sa, sb, 0, sn, cs⟩ = false) := Lib.hid (stepB_no.2 fun h => by unfold stepOk at h; rw [if_pos rfl] at h; obtain ⟨⟨q1, q2, q3, q4⟩, q5, q6⟩ := h; simp only at q1 q2 q3 q4 q5 q6; omega)
      have d0 : decide (sa ≥ 0) = true := decide_eq_true (by omega)
      have d1 : decide (0 ≤ sa) = true := decide_eq_true (by omega)
      have d2 : decide (sa < (many : Int)) = true := decide_eq_true (by omega)
      have d3 : decide (sb ≥ 0) = true := decide_eq_true (by omega)
      have d4 : decide (0 ≤ sb) = true := decide_eq_true (by omega)
      have d5 : decide (sb < (many : Int)) = true := decide_eq_true (by omega)
      have d6 : ((sn : Int) == 0) = false := by rw [beq_eq_false_iff_ne]; omega
      have d7 : (¬ sn = 0) := by omega
      go_enter Try.func45, Try.ntmps45
      go_wp2
      go_ret
      exact ⟨by rw [HE.out]; rfl, (Below.refl _ w).alloc (Nat.le_refl _) _⟩
    · have HE : Hid (stepB t many ⟨true, sa, sb, 0, 0, cs⟩ = true) := Lib.hid (stepB_yes.2 (by unfold stepOk; rw [if_pos rfl]; exact ⟨⟨h0, h4, h5, h6⟩, rfl, rfl⟩))
      have d0 : decide (sa ≥ 0) = true := decide_eq_true (by omega)
      have d1 : decide (0 ≤ sa) = true := decide_eq_true (by omega)
      have d2 : decide (sa < (many : Int)) = true := decide_eq_true (by omega)
      have d3 : decide (sb ≥ 0) = true := decide_eq_true (by omega)
      have d4 : decide (0 ≤ sb) = true := decide_eq_true (by omega)
      have d5 : decide (sb < (many : Int)) = true := decide_eq_true (by omega)
      go_enter Try.func45, Try.ntmps45
      go_wp2
      go_ret
      exact ⟨by rw [HE.out]; rfl, (Below.refl _ w).alloc (Nat.le_refl _) _⟩

set_option maxRecDepth 100000 in
set_option maxHeartbeats 40000000 in
theorem rcheck25_any (t n c : Nat) (A : Option Addr) (s : Nat → PS) (w : World) (ht : t ≤ 4294967295) (hs : Pln w w.heap.size A n s) (hn : n ≤ 9223372036854775807) :
    Calls Try.prog 17 #[.int .u32 t, .slice A n c] w (RetV w (.int .i64 (chkE t n s))) := by
  have HM := Lib.hid (rmodulus25_any t w ht)
  have HS := Lib.hid hs
  clear hs
  by_cases hm : modB t = true
  rotate_left
  · have hmf : modB t = false := by simpa using hm
    have HE : Hid (chkE t n s = 2) := Lib.hid (by unfold chkE; rw [if_neg hm])
    rw [hmf] at HM
    clear hm hmf
    go_enter Try.func17, Try.ntmps17
    go_wp2_with (go_at_call 38; refine HM.out.mono ?_; rintro e w' ⟨rfl, hw⟩; subst hw)
    go_ret
    exact ⟨by rw [HE.out]; rfl, Below.refl _ _⟩
  obtain ⟨ht3, htm, hodd⟩ := modB_yes.1 hm
  have HMB := Lib.hid hm
  rw [hm] at HM
  clear hm
  by_cases hbig : 600 < n
  · have HE : Hid (chkE t n s = 3) := Lib.hid (by unfold chkE; rw [if_pos HMB.out, if_pos hbig])
    have e1 : decide ((n : Int) > 600) = true := decide_eq_true (by omega)
    have e2 : decide (600 < n) = true := decide_eq_true (by omega)
    go_enter Try.func17, Try.ntmps17
    go_wp2_with (go_at_call 38; refine HM.out.mono ?_; rintro e w' ⟨rfl, hw⟩; subst hw)
    go_ret
    exact ⟨by rw [HE.out]; rfl, Below.refl _ _⟩
  have e1 : decide ((n : Int) > 600) = false := decide_eq_false (by omega)
  have e2 : decide (600 < n) = false := decide_eq_false (by omega)
  go_enter Try.func17, Try.ntmps17
  go_wp2_with (go_at_call 38; refine HM.out.mono ?_; rintro e w' ⟨rfl, hw⟩; subst hw)
  go_loopw [5] (fun I wr => ∃ i : Nat, I = .int .i64 (i : Int) ∧ i ≤ n ∧ (∀ j, j < i → stepOk t (j + 1) (s j)) ∧ Below w.heap.size w wr) (fun I _ => n - (intOf I).toNat)
  case atStart => exact ⟨0, rfl, Nat.zero_le _, (fun j hj => by omega), Below.refl _ _⟩
  case round =>
    obtain ⟨i, rfl, hin, hall, hbl⟩ := hrel
    have HAL := Lib.hid hall
    have HBE := Lib.hid hbl
    have hzr := hbl.size
    clear hall hbl
    by_cases hi : i < n
    rotate_left
    · obtain rfl : n = i := by omega
      have e3 : decide ((n : Int) < (n : Int)) = false := decide_eq_false (by omega)
      have HE : Hid (chkE t n s = 0) := Lib.hid (by unfold chkE; rw [if_pos HMB.out, if_neg hbig, if_pos (show PlnOk t n s from HAL.out)])
      go_wp2
      go_ret
      exact ⟨by rw [HE.out]; rfl, HBE.out⟩
    have e3 : decide ((i : Int) < (n : Int)) = true := decide_eq_true (by omega)
    obtain ⟨g, off, hAe, hg, hst⟩ := HS.out.below HBE.out (by omega)
    obtain ⟨k0, k1, k2, k3, C, cC, k4, hsq, hsn⟩ := hst i hi
    rw [hAe]
    have i0 : 0 ≤ (i : Int) := by omega
    have i1 : (i : Int) < (n : Int) := by omega
    obtain ⟨S, hS⟩ : ∃ x, s i = x := ⟨_, rfl⟩
    rw [hS] at k0 k1 k2 k3 k4 hsq hsn
    obtain ⟨sm, sa, sb, sf, sn, cs⟩ := S
    simp only at k0 k1 k2 k3 k4 hsq hsn
    have HC := Lib.hid (rstep25_any t (i + 1) sm sa sb sf sn cs C cC w.heap.size wr ht3 htm hodd (by omega) hsq hzr hsn)
    rw [← hS] at HC
    have HES := Lib.hid hS
    have hstep : Hid (stepB t (i + 1) (s i) = false → chkE t n s = 2) := Lib.hid fun h => by unfold chkE; rw [if_pos HMB.out, if_neg hbig, if_neg fun h2 => stepB_no.1 h (h2 i hi)]
    have hnext : Hid (stepB t (i + 1) (s i) = true → ∀ j, j < i + 1 → stepOk t (j + 1) (s j)) := Lib.hid fun h j hj => by
      rcases Nat.lt_or_eq_of_le (Nat.le_of_lt_succ hj) with h6 | h6
      · exact HAL.out j h6
      · rw [h6]; exact stepB_yes.1 h
    clear hst hsq hAe hS
    obtain ⟨bb, hbb⟩ : ∃ bb, stepB t (i + 1) (s i) = bb := ⟨_, rfl⟩
    rw [hbb] at HC hstep hnext
    clear hbb
    cases bb with
    | false =>
      go_wp2_with (go_at_call 45; refine HC.out.mono ?_; rintro e w' ⟨rfl, hw⟩)
      go_ret
      exact ⟨by rw [hstep.out (by trivial)]; rfl, HBE.out.trans (hw.mono hzr)⟩
    | true =>
      go_wp2_with (go_at_call 45; refine HC.out.mono ?_; rintro e w' ⟨rfl, hw⟩)
      go_roundw
      case rel => exact ⟨i + 1, by go_num, hi, hnext.out (by trivial), HBE.out.trans (hw.mono hzr)⟩
      case measure => simp only [intOf]; omega
end Go.Proofs.Ytmidpholmgmdpaa
