/- The contracts of polys.Check and of the reference's Check. -/
import Derived.Test.YtmidpholmgmdpaaT25
namespace Go.Proofs.Ytmidpholmgmdpaa
open Go.RowKit
set_option linter.unusedVariables false

/-- a step of a plan -/
structure PS where
  mul : Bool
  a : Int
  b : Int
  first : Int
  n : Nat
  cs : Nat → Int
/-- a step in memory, in five cells from one on -/
def StpAt (w : World) (hi g o : Nat) (s : PS) : Prop :=
  w.cell? ⟨g, o, none⟩ = some (.bool s.mul) ∧ w.cell? ⟨g, o + 1, none⟩ = some (.int .i64 s.a) ∧ w.cell? ⟨g, o + 2, none⟩ = some (.int .i64 s.b) ∧ w.cell? ⟨g, o + 3, none⟩ = some (.int .i64 s.first) ∧
    ∃ C c, w.cell? ⟨g, o + 4, none⟩ = some (.slice C s.n c) ∧ Z.Sq .i64 w 0 hi C s.n s.cs ∧ s.n ≤ 9223372036854775807
/-- a plan in memory -/
def Pln (w : World) (hi : Nat) (A : Option Addr) (n : Nat) (s : Nat → PS) : Prop :=
  0 < n → ∃ g off, A = some ⟨g, off, none⟩ ∧ g < hi ∧ ∀ i, i < n → StpAt w hi g (off + i * 5) (s i)
theorem StpAt.below {w w' : World} {hi g o : Nat} {s : PS} (h : StpAt w hi g o s) (hg : g < hi) (hb : Below hi w w') : StpAt w' hi g o s := by
  obtain ⟨h0, h1, h2, h3, C, c, h4, h5, h6⟩ := h
  refine ⟨(hb.cell (p := ⟨g, o, none⟩) hg).trans h0, (hb.cell (p := ⟨g, o + 1, none⟩) hg).trans h1, (hb.cell (p := ⟨g, o + 2, none⟩) hg).trans h2, (hb.cell (p := ⟨g, o + 3, none⟩) hg).trans h3, C, c, (hb.cell (p := ⟨g, o + 4, none⟩) hg).trans h4, h5.below hb (Nat.le_refl _), h6⟩
theorem Pln.below {w w' : World} {hi n : Nat} {A : Option Addr} {s : Nat → PS} (h : Pln w hi A n s) (hb : Below hi w w') : Pln w' hi A n s := fun hn => by
  obtain ⟨g, off, hA, hg, hc⟩ := h hn
  exact ⟨g, off, hA, hg, fun i hi2 => (hc i hi2).below hg hb⟩
def stepOk (t many : Nat) (s : PS) : Prop :=
  if s.mul = true then (0 ≤ s.a ∧ s.a < many ∧ 0 ≤ s.b ∧ s.b < many) ∧ s.first = 0 ∧ s.n = 0
  else s.a = 0 ∧ s.b = 0 ∧ s.n ≤ many ∧ balB t s.first = true ∧ ∀ j, j < s.n → balB t (s.cs j) = true
def PlnOk (t n : Nat) (s : Nat → PS) : Prop := ∀ i, i < n → stepOk t (i + 1) (s i)
open Classical in
/-- what Check answers -/
noncomputable def chkE (t n : Nat) (s : Nat → PS) : Int := if modB t = true then (if 600 < n then 3 else if PlnOk t n s then 0 else 2) else 2

theorem known25_any (r i : Int) (b : Nat) (w : World) (hc : w.cell? ⟨b, 0, none⟩ = some (.int .i64 i)) : Calls Try.prog 48 #[.int .i64 r, .pointer (some ⟨b, 0, none⟩)] w (RetP w (.bool (decide (0 ≤ r) && decide (r ≤ i)))) := by
  by_cases h0 : 0 ≤ r
  · have d0 : decide (r ≥ 0) = true := decide_eq_true h0
    have d1 : decide (0 ≤ r) = true := decide_eq_true h0
    by_cases h1 : r ≤ i
    · have d2 : decide (r ≤ i) = true := decide_eq_true h1
      go_enter Try.func48, Try.ntmps48
      go_wp2
      go_ret
      exact ⟨by first | rfl | (rw [d1, d2]; rfl), rfl⟩
    · have d2 : decide (r ≤ i) = false := decide_eq_false h1
      go_enter Try.func48, Try.ntmps48
      go_wp2
      go_ret
      exact ⟨by first | rfl | (rw [d1, d2]; rfl), rfl⟩
  · have d0 : decide (r ≥ 0) = false := decide_eq_false h0
    have d1 : decide (0 ≤ r) = false := decide_eq_false h0
    go_enter Try.func48, Try.ntmps48
    go_wp2
    go_ret
    exact ⟨by first | rfl | (rw [d1]; rfl), rfl⟩

set_option maxRecDepth 100000 in
set_option maxHeartbeats 40000000 in
theorem check25_any (t n c : Nat) (A : Option Addr) (s : Nat → PS) (w : World) (ht : t ≤ 4294967295) (hs : Pln w w.heap.size A n s) (hn : n ≤ 9223372036854775807) :
    Calls Try.prog 22 #[.int .u32 t, .slice A n c] w (RetV w (.int .i64 (chkE t n s))) := by
  have HM := Lib.hid (modulus25_any t w ht)
  have HS := Lib.hid hs
  clear hs
  by_cases hm : modB t = true
  rotate_left
  · have hmf : modB t = false := by simpa using hm
    have HE : Hid (chkE t n s = 2) := Lib.hid (by unfold chkE; rw [if_neg hm])
    rw [hmf] at HM
    clear hm hmf
    go_enter Try.func22, Try.ntmps22
    go_wp2_with (go_at_call 39; refine HM.out.mono ?_; rintro e w' ⟨rfl, hw⟩; subst hw)
    go_ret
    exact ⟨by rw [HE.out]; rfl, Below.refl _ _⟩
  obtain ⟨ht3, htm, hodd⟩ := modB_yes.1 hm
  have HMB := Lib.hid hm
  rw [hm] at HM
  clear hm
  by_cases hbig : 600 < n
  · have HE : Hid (chkE t n s = 3) := Lib.hid (by unfold chkE; rw [if_pos HMB.out, if_pos hbig])
    have e1 : decide ((n : Int) > 600) = true := decide_eq_true (by omega)
    have e2 : decide (600 < n) = true := decide_eq_true (by omega)
    go_enter Try.func22, Try.ntmps22
    go_wp2_with (go_at_call 39; refine HM.out.mono ?_; rintro e w' ⟨rfl, hw⟩; subst hw)
    go_ret
    exact ⟨by rw [HE.out]; rfl, Below.refl _ _⟩
  have e1 : decide ((n : Int) > 600) = false := decide_eq_false (by omega)
  have e2 : decide (600 < n) = false := decide_eq_false (by omega)
  go_enter Try.func22, Try.ntmps22
  go_wp2_with (go_at_call 39; refine HM.out.mono ?_; rintro e w' ⟨rfl, hw⟩; subst hw)
  go_loopw [18] (fun I wr => ∃ i : Nat, I = .int .i64 (i : Int) ∧ i ≤ n ∧ (∀ j, j < i → stepOk t (j + 1) (s j)) ∧ Below w.heap.size w wr) (fun I _ => n - (intOf I).toNat)
  case atStart => exact ⟨0, rfl, Nat.zero_le _, (fun j hj => by omega), Below.refl _ _⟩
  case round =>
    obtain ⟨i, rfl, hin, hall, hbl⟩ := hrel
    have HAL := Lib.hid hall
    have HBE := Lib.hid hbl
    have hzr := hbl.size
    clear hall hbl
    by_cases hi : i < n
    rotate_left
    · obtain rfl : n = i := by omega
      have e3 : decide ((n : Int) < (n : Int)) = false := decide_eq_false (by omega)
      have HE : Hid (chkE t n s = 0) := Lib.hid (by unfold chkE; rw [if_pos HMB.out, if_neg hbig, if_pos (show PlnOk t n s from HAL.out)])
      go_wp2
      go_ret
      exact ⟨by rw [HE.out]; rfl, HBE.out⟩
    have e3 : decide ((i : Int) < (n : Int)) = true := decide_eq_true (by omega)
    obtain ⟨g, off, hAe, hg, hst⟩ := HS.out.below HBE.out (by omega)
    obtain ⟨k0, k1, k2, k3, C, cC, k4, hsq, hsn⟩ := hst i hi
    rw [hAe]
    have HQ := Lib.hid hsq
    obtain ⟨sm, hsm⟩ : ∃ x, (s i).mul = x := ⟨_, rfl⟩
    obtain ⟨sa, hsa⟩ : ∃ x, (s i).a = x := ⟨_, rfl⟩
    obtain ⟨sb, hsb⟩ : ∃ x, (s i).b = x := ⟨_, rfl⟩
    obtain ⟨sf, hsf⟩ : ∃ x, (s i).first = x := ⟨_, rfl⟩
    obtain ⟨sn, hsnn⟩ : ∃ x, (s i).n = x := ⟨_, rfl⟩
    rw [hsm] at k0
    rw [hsa] at k1
    rw [hsb] at k2
    rw [hsf] at k3
    rw [hsnn] at k4 hsn
    have i0 : 0 ≤ (i : Int) := by omega
    have i1 : (i : Int) < (n : Int) := by omega
    clear hst hsq hAe
    have hcase : (sm = true ∧ (sf ≠ 0 ∨ (sf = 0 ∧ 0 < sn) ∨ (sf = 0 ∧ sn = 0 ∧ (decide (0 ≤ sa) && decide (sa ≤ (i : Int))) = false) ∨ (sf = 0 ∧ sn = 0 ∧ (decide (0 ≤ sa) && decide (sa ≤ (i : Int))) = true ∧ (decide (0 ≤ sb) && decide (sb ≤ (i : Int))) = false) ∨ (sf = 0 ∧ sn = 0 ∧ (decide (0 ≤ sa) && decide (sa ≤ (i : Int))) = true ∧ (decide (0 ≤ sb) && decide (sb ≤ (i : Int))) = true))) ∨ (sm = false ∧ (sa ≠ 0 ∨ (sa = 0 ∧ sb ≠ 0) ∨ (sa = 0 ∧ sb = 0 ∧ i + 1 < sn) ∨ (sa = 0 ∧ sb = 0 ∧ sn ≤ i + 1 ∧ balB t sf = false) ∨ (sa = 0 ∧ sb = 0 ∧ sn ≤ i + 1 ∧ balB t sf = true))) := by
      cases sm
      · cases balB t sf <;> simp <;> omega
      · cases (decide (0 ≤ sa) && decide (sa ≤ (i : Int))) <;> cases (decide (0 ≤ sb) && decide (sb ≤ (i : Int))) <;> simp <;> omega
    have HB2 : Hid (∀ (o o2 : Obj), Below w.heap.size wr ((wr.alloc o).alloc o2)) := Lib.hid fun o o2 => ((Below.refl _ wr).alloc hzr _).alloc (by rw [World.size_alloc]; omega) _
    have HK := Lib.hid (fun (r : Int) (o : Obj) => known25_any r i wr.heap.size ((wr.alloc (.cells #[.int .i64 (i : Int)] 3)).alloc o) (by
      have hb := (Below.refl (wr.heap.size + 1) (wr.alloc (.cells #[.int .i64 (i : Int)] 3))).alloc (by rw [World.size_alloc]; exact Nat.le_refl _) o
      refine (hb.cell (p := ⟨wr.heap.size, 0, none⟩) (Nat.lt_succ_self _)).trans ?_
      have h1 := cell_one_new wr (.int .i64 (i : Int)) 3 0 _ rfl
      simp only [Addr.add] at h1
      exact h1))
    have HBA := Lib.hid (fun (x : Int) (W : World) => balanced25_any t x W ht3 htm hodd)
    have hbad : ¬ stepOk t (i + 1) (s i) → chkE t n s = 2 := fun h => by unfold chkE; rw [if_pos HMB.out, if_neg hbig, if_neg fun h2 => h (h2 i hi)]
    have hnext : stepOk t (i + 1) (s i) → ∀ j, j < i + 1 → stepOk t (j + 1) (s j) := fun h j hj => by
      rcases Nat.lt_or_eq_of_le (Nat.le_of_lt_succ hj) with h6 | h6
      · exact HAL.out j h6
      · rw [h6]; exact h
    have hgt : 0 < sn → decide ((sn : Int) > 0) = true := fun h => decide_eq_true (by omega)
    rcases hcase with ⟨rfl, h1 | ⟨rfl, h2⟩ | ⟨rfl, rfl, h3⟩ | ⟨rfl, rfl, h3, h4⟩ | ⟨rfl, rfl, h3, h4⟩⟩ | ⟨rfl, h1 | ⟨rfl, h2⟩ | ⟨rfl, rfl, h3⟩ | ⟨rfl, rfl, h3, h4⟩ | ⟨rfl, rfl, h3, h4⟩⟩
    · have HE := Lib.hid (hbad fun h => by unfold stepOk at h; rw [if_pos hsm, hsf, hsa, hsb, hsnn] at h; exact h1 h.2.1)
      have d1 : decide (sf ≠ 0) = true := decide_eq_true h1
      clear hbad hnext hgt
      go_wp2
      go_ret
      exact ⟨by rw [HE.out]; rfl, HBE.out.trans (HB2.out _ _)⟩
    · have HE := Lib.hid (hbad fun h => by unfold stepOk at h; rw [if_pos hsm, hsf, hsa, hsb, hsnn] at h; exact absurd h.2.2 (by omega))
      have d1 := hgt h2
      have d2 : decide (0 < (sn : Int)) = true := decide_eq_true (by omega)
      clear hbad hnext hgt
      go_wp2
      go_ret
      exact ⟨by rw [HE.out]; rfl, HBE.out.trans (HB2.out _ _)⟩
    · have HE := Lib.hid (hbad fun h => by unfold stepOk at h; rw [if_pos hsm, hsf, hsa, hsb, hsnn] at h; simp only [Bool.and_eq_false_iff, decide_eq_false_iff_not] at h3; omega)
      have HKA := Lib.hid (fun o => h3 ▸ HK.out sa o)
      clear h3
      clear hbad hnext hgt
      go_wp2_with (go_at_call 48; refine (HKA.out _).mono ?_; rintro e w' ⟨rfl, hw⟩; subst hw)
      go_ret
      exact ⟨by rw [HE.out]; rfl, HBE.out.trans (HB2.out _ _)⟩
    · have HE := Lib.hid (hbad fun h => by unfold stepOk at h; rw [if_pos hsm, hsf, hsa, hsb, hsnn] at h; simp only [Bool.and_eq_false_iff, decide_eq_false_iff_not] at h4; omega)
      have HKA := Lib.hid h3
      have HKB := Lib.hid h4
      clear h3 h4
      clear hbad hnext hgt
      go_wp2_with (go_at_call 48; refine (HK.out _ _).mono ?_; rintro e w' ⟨rfl, hw⟩; subst hw; first | rw [HKA.out] | rw [HKB.out])
      go_ret
      exact ⟨by rw [HE.out]; rfl, HBE.out.trans (HB2.out _ _)⟩
    · have HKA := Lib.hid h3
      have HKB := Lib.hid h4
      have HN := Lib.hid (hnext (by
        unfold stepOk
        rw [if_pos hsm, hsa, hsb, hsf, hsnn]
        simp only [Bool.and_eq_true, decide_eq_true_eq] at h3 h4
        refine ⟨⟨?_, ?_, ?_, ?_⟩, rfl, rfl⟩ <;> omega))
      clear hbad hnext hgt h3 h4
      go_wp2_with (go_at_call 48; refine (HK.out _ _).mono ?_; rintro e w' ⟨rfl, hw⟩; subst hw; first | rw [HKA.out] | rw [HKB.out])
      go_loopw [84] (fun I w' => I = .int .i64 0 ∧ Below w.heap.size w w') (fun I _ => 0)
      case atStart => exact ⟨rfl, HBE.out.trans (HB2.out _ _)⟩
      case round =>
        obtain ⟨rfl, hb5⟩ := hrel
        have HB5 := Lib.hid hb5
        clear hb5
        go_wp2
        go_roundw
        case rel => exact ⟨i + 1, by go_num, hi, HN.out, HB5.out⟩
        case measure => simp only [intOf]; omega
    · have HE := Lib.hid (hbad fun h => by unfold stepOk at h; rw [if_neg (by simp [hsm]), hsf, hsa, hsb, hsnn] at h; exact h1 h.1)
      have d1 : decide (sa ≠ 0) = true := decide_eq_true h1
      clear hbad hnext hgt
      go_wp2
      go_ret
      exact ⟨by rw [HE.out]; rfl, HBE.out.trans (HB2.out _ _)⟩
    · have HE := Lib.hid (hbad fun h => by unfold stepOk at h; rw [if_neg (by simp [hsm]), hsf, hsa, hsb, hsnn] at h; exact h2 h.2.1)
      have d1 : decide (sb ≠ 0) = true := decide_eq_true h2
      clear hbad hnext hgt
      go_wp2
      go_ret
      exact ⟨by rw [HE.out]; rfl, HBE.out.trans (HB2.out _ _)⟩
    · have HE := Lib.hid (hbad fun h => by unfold stepOk at h; rw [if_neg (by simp [hsm]), hsf, hsa, hsb, hsnn] at h; exact absurd h.2.2.1 (by omega))
      have d1 : decide ((sn : Int) > (i : Int) + 1) = true := decide_eq_true (by omega)
      have d2 : decide ((i : Int) + 1 < (sn : Int)) = true := decide_eq_true (by omega)
      clear hbad hnext hgt
      go_wp2
      go_ret
      exact ⟨by rw [HE.out]; rfl, HBE.out.trans (HB2.out _ _)⟩
    · have HE := Lib.hid (hbad fun h => by unfold stepOk at h; rw [if_neg (by simp [hsm]), hsf, hsa, hsb, hsnn] at h; exact absurd h.2.2.2.1 (by rw [h4]; exact Bool.false_ne_true))
      have d1 : decide ((sn : Int) > (i : Int) + 1) = false := decide_eq_false (by omega)
      have d2 : decide ((i : Int) + 1 < (sn : Int)) = false := decide_eq_false (by omega)
      have HBF := Lib.hid (fun W => h4 ▸ HBA.out sf W)
      clear h4
      clear hbad hnext hgt
      go_wp2_with (go_at_call 31; refine (HBF.out _).mono ?_; rintro e w' ⟨rfl, hw⟩; subst hw)
      go_ret
      exact ⟨by rw [HE.out]; rfl, HBE.out.trans (HB2.out _ _)⟩
    · have d1 : decide ((sn : Int) > (i : Int) + 1) = false := decide_eq_false (by omega)
      have d2 : decide ((i : Int) + 1 < (sn : Int)) = false := decide_eq_false (by omega)
      have HBF := Lib.hid (fun W => h4 ▸ HBA.out sf W)
      have HH4 := Lib.hid h4
      clear h4 hgt
      have HBAD := Lib.hid hbad
      have HNEXT := Lib.hid hnext
      clear hbad hnext
      go_wp2_with (go_at_call 31; refine (HBF.out _).mono ?_; rintro e w' ⟨rfl, hw⟩; subst hw)
      have HQ9 := Lib.hid (HQ.out.below (HB2.out (.cells #[.int .i64 (i : Int)] 3) (.cells #[.bool false, .int .i64 0, .int .i64 0, .int .i64 sf, .slice C sn cC] 37)) (Nat.le_refl _))
      obtain ⟨w9, hw9⟩ : ∃ w9, w9 = ((wr.alloc (.cells #[.int .i64 (i : Int)] 3)).alloc (.cells #[.bool false, .int .i64 0, .int .i64 0, .int .i64 sf, .slice C sn cC] 37)) := ⟨_, rfl⟩
      rw [← hw9] at HQ9 ⊢
      have hb9 : Below w.heap.size w w9 := by rw [hw9]; exact HBE.out.trans (HB2.out _ _)
      have HB9 := Lib.hid hb9
      clear hb9
      clear hw9
      go_loopw [84] (fun I w' => ∃ j : Nat, I = .int .i64 (j : Int) ∧ j ≤ sn ∧ (∀ q, q < j → balB t ((s i).cs q) = true) ∧ w' = w9) (fun I _ => sn - (intOf I).toNat)
      case atStart => exact ⟨0, rfl, Nat.zero_le _, (fun q hq => by omega), rfl⟩
      case round =>
        obtain ⟨j, rfl, hj, hbal, rfl⟩ := hrel
        have HBL := Lib.hid hbal
        clear hbal
        by_cases hjn : j < sn
        · have e5 : decide ((j : Int) < (sn : Int)) = true := decide_eq_true (by omega)
          obtain ⟨g2, off2, hC, _, hg2, hcell⟩ := HQ9.out.2 (by omega)
          have k5 := hcell j (by omega)
          obtain ⟨v, hv⟩ : ∃ v, (s i).cs j = v := ⟨_, rfl⟩
          rw [hv] at k5
          rw [hC]
          have j0 : 0 ≤ (j : Int) := by omega
          have j1 : (j : Int) < (sn : Int) := by omega
          have HBV := Lib.hid (fun W => HBA.out v W)
          cases hbv : balB t v with
          | false =>
            rw [hbv] at HBV
            have HE := Lib.hid (HBAD.out fun h => by
              unfold stepOk at h
              rw [if_neg (by simp [hsm])] at h
              have := h.2.2.2.2 j (by omega)
              rw [hv, hbv] at this
              cases this)
            clear hcell hv hC hbv
            go_wp2_with (go_at_call 31; refine (HBV.out _).mono ?_; rintro e w' ⟨rfl, hw⟩; subst hw)
            go_ret
            exact ⟨by rw [HE.out]; rfl, HB9.out⟩
          | true =>
            rw [hbv] at HBV
            have HBN : Hid (∀ q, q < j + 1 → balB t ((s i).cs q) = true) := Lib.hid fun q hq => by
              rcases Nat.lt_or_eq_of_le (Nat.le_of_lt_succ hq) with h6 | h6
              · exact HBL.out q h6
              · rw [h6, hv]; exact hbv
            clear hcell hv hC hbv
            go_wp2_with (go_at_call 31; refine (HBV.out _).mono ?_; rintro e w' ⟨rfl, hw⟩; subst hw)
            go_roundw
            case rel => exact ⟨j + 1, by go_num, hjn, HBN.out, by trivial⟩
            case measure => simp only [intOf]; omega
        · obtain rfl : sn = j := by omega
          have e5 : decide ((sn : Int) < (sn : Int)) = false := decide_eq_false (by omega)
          have HN := Lib.hid (HNEXT.out (by
            unfold stepOk
            rw [if_neg (by simp [hsm]), hsa, hsb, hsf, hsnn]
            exact ⟨rfl, rfl, h3, HH4.out, HBL.out⟩))
          go_wp2
          go_roundw
          case rel => exact ⟨i + 1, by go_num, hi, HN.out, HB9.out⟩
          case measure => simp only [intOf]; omega
end Go.Proofs.Ytmidpholmgmdpaa
