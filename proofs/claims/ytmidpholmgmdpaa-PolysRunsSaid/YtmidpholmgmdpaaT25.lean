/- The contract of polys.Table. -/
import Derived.Test.YtmidpholmgmdpaaPairs
import Derived.Test.YtmidpholmgmdpaaInterp
import Derived.Test.YtmidpholmgmdpaaRInterp
import Derived.Test.YtmidpholmgmdpaaQTail
import Derived.BigRegion
namespace Go.Proofs.Ytmidpholmgmdpaa
open Go.RowKit
set_option linter.unusedVariables false

theorem e32' : ElemOf Try.prog 51 22 .u32 4 := ⟨Try.underlying51, by kernel_rfl⟩
theorem e64s' : ElemOf Try.prog 23 2 .i64 8 := ⟨Try.underlying23, by kernel_rfl⟩
def idF (m j : Nat) : Nat := if j < m then j else 0
def resF (p m : Nat) (y : Nat → Int) (j : Nat) : Nat := if j < m then ((y j + p) % (p : Int)).toNat else 0
def balF (p k : Nat) (f : Nat → Nat) (j : Nat) : Int := if j < k then bal p ((f j : Nat) : Int) else 0
def TbOk (p m : Nat) (y : Nat → Int) : Prop := m ≤ p ∧ ∀ i, i < m → balB p (y i) = true
/-- what Table leaves -/
def RetTb (w : World) (p m : Nat) (y : Nat → Int) (e : Ending) (w' : World) : Prop :=
  Below w.heap.size w w' ∧ ((fieldE p ≠ 0 ∧ e = .returned (.tuple #[.slice none 0 0, .int .i64 (fieldE p)])) ∨ (fieldE p = 0 ∧ ¬ TbOk p m y ∧ e = .returned (.tuple #[.slice none 0 0, .int .i64 2])) ∨
    (fieldE p = 0 ∧ TbOk p m y ∧ ∃ A c k f, e = .returned (.tuple #[.slice A k c, .int .i64 0]) ∧ Thr p m (idF m) (resF p m y) k f ∧ Z.Sq .i64 w' w.heap.size w'.heap.size A k (balF p k f)))
theorem pr_odd25 {p : Nat} (h : Mr.Pr p) (h3 : 3 ≤ p) : p % 2 = 1 := by
  rcases Nat.mod_two_eq_zero_or_one p with h0 | h0
  · rcases h.2 2 (Nat.dvd_of_mod_eq_zero h0) with h1 | h1 <;> omega
  · exact h0
theorem field_ok {p : Nat} (h : fieldE p = 0) : 3 ≤ p ∧ p ≤ 256 ∧ p % 2 = 1 ∧ Mr.Pr p := by
  unfold fieldE at h
  split at h
  · rename_i h1
    split at h
    · cases h
    · obtain ⟨h2, h3, h4⟩ := pp7_yes.1 h1
      exact ⟨h2, by omega, pr_odd25 h4 h2, h4⟩
  · cases h
theorem ipR_ok {p m E k : Nat} {y : Nat → Int} {f : Nat → Nat} (h : fieldE p = 0) (hm : m ≤ p) (hr : IpR p m (idF m) m (resF p m y) E k f) : E = 0 ∧ Thr p m (idF m) (resF p m y) k f := by
  obtain ⟨h3, h6, _, hpr⟩ := field_ok h
  have hbad : ¬ IpBad p m m := fun hb => by unfold IpBad at hb; omega
  have hval : ¬ IpVal p m (idF m) (resF p m y) := fun ⟨j, hj, hv⟩ => by
    rcases hv with hv | hv
    · unfold idF at hv
      rw [if_pos hj] at hv
      omega
    · unfold resF at hv
      rw [if_pos hj] at hv
      have h1 := Int.emod_nonneg (y j + p) (show (p : Int) ≠ 0 by omega)
      have h2 := Int.emod_lt_of_pos (y j + p) (show (0 : Int) < (p : Int) by omega)
      omega
  have hap : Apart p m (idF m) := fun i k hki hi => by
    unfold idF dif
    rw [if_pos hi, if_pos (by omega)]
    refine hpr.coprime fun hd => ?_
    have h1 : (i + p - k) % p = i - k := by rw [show i + p - k = (i - k) + p by omega, Nat.add_mod_right, Nat.mod_eq_of_lt (by omega)]
    rw [h1] at hd
    have := Nat.le_of_dvd (by omega) hd
    omega
  rcases hr with ⟨h1, _⟩ | ⟨_, h1, _⟩ | ⟨_, _, h1, _⟩ | ⟨_, _, _, h1, _⟩ | ⟨_, _, _, _, h1, h2⟩
  · exact absurd h1 hbad
  · omega
  · exact absurd h1 hval
  · exact absurd hap h1
  · exact ⟨h1, h2⟩

set_option maxRecDepth 100000 in
set_option maxHeartbeats 4000000 in
theorem table25_any (p m c : Nat) (A : Option Addr) (y : Nat → Int) (w : World) (hp : p ≤ 4294967295) (hy : Z.Sq .i64 w 0 w.heap.size A m y) (hm : m ≤ 9223372036854775807) :
    Calls Try.prog 11 #[.int .u32 p, .slice A m c] w (RetTb w p m y) := by
  have HF := Lib.hid (field25_any p w hp)
  have HY := Lib.hid hy
  clear hy
  by_cases hf0 : fieldE p = 0
  rotate_left
  · have HN := Lib.hid hf0
    obtain ⟨E, hE⟩ : ∃ E, fieldE p = E := ⟨_, rfl⟩
    rw [hE] at HF hf0
    have e1 : (E != 0) = true := by simp [hf0]
    have HE := Lib.hid hE
    clear hf0 hE
    go_enter Try.func11, Try.ntmps11
    go_wp2_with fail
    refine HF.out.mono ?_
    rintro e w1 ⟨rfl, hb1⟩
    go_wp2_with fail
    go_ret2
    exact ⟨hb1, .inl ⟨HN.out, by rw [HE.out]; rfl⟩⟩
  obtain ⟨hp3, hp256, hodd, hpr⟩ := field_ok hf0
  have HF0 := Lib.hid hf0
  rw [hf0] at HF
  clear hf0 hpr
  by_cases hmp : m ≤ p
  rotate_left
  · have HN : Hid (¬ TbOk p m y) := Lib.hid fun h => hmp h.1
    have e1 : decide ((m : Int) > (p : Int)) = true := decide_eq_true (by omega)
    have e2 : decide (p < m) = true := decide_eq_true (by omega)
    clear hmp
    go_enter Try.func11, Try.ntmps11
    go_wp2_with fail
    refine HF.out.mono ?_
    rintro e w1 ⟨rfl, hb1⟩
    go_wp2_with fail
    go_ret2
    exact ⟨hb1, .inr (.inl ⟨HF0.out, HN.out, rfl⟩)⟩
  have e1 : decide ((m : Int) > (p : Int)) = false := decide_eq_false (by omega)
  have e2 : decide (p < m) = false := decide_eq_false (by omega)
  go_enter Try.func11, Try.ntmps11
  go_wp2_with fail
  refine HF.out.mono ?_
  rintro e w1 ⟨rfl, hb1⟩
  have hz1 := hb1.size
  have HB1 := Lib.hid hb1
  have hr0 := World.rowIs_made w1 (.int .u32 0) m 22
  have hr1 := World.rowIs_made (w1.alloc (.cells (madeCells #[.int .u32 0] m) 22)) (.int .u32 0) m 22
  have hr0 := hr0.alloc (.cells (madeCells #[.int .u32 0] m) 22)
  rw [World.size_alloc] at hr1
  have hb12 : Below w1.heap.size w1 (((w1.alloc (.cells (madeCells #[.int .u32 0] m) 22)).alloc (.cells (madeCells #[.int .u32 0] m) 22)).drew) := (((Below.refl _ w1).alloc (Nat.le_refl _) _).alloc (by rw [World.size_alloc]; omega) _).drew
  obtain ⟨w2, hw2⟩ : ∃ w2, w2 = (((w1.alloc (.cells (madeCells #[.int .u32 0] m) 22)).alloc (.cells (madeCells #[.int .u32 0] m) 22)).drew) := ⟨_, rfl⟩
  have hr0 : w2.rowIs w1.heap.size 22 m (ku .u32 fun _ => 0) := by rw [hw2]; exact hr0.drew
  have hr1 : w2.rowIs (w1.heap.size + 1) 22 m (ku .u32 fun _ => 0) := by rw [hw2]; exact hr1.drew
  rw [← hw2] at hb12
  have HR01 := Lib.hid (And.intro hr0 (And.intro hr1 hb12))
  have HW2 := Lib.hid hw2
  clear hr0 hr1 hb12 hw2 hb1
  have mk := run_make_row' (P := Try.prog) 51 22 (.int .u32 0) 4 Try.underlying51 (by kernel_rfl) rfl .i64 .i64 m (by omega) (by omega)
  go_wp2_with fail
  go_region
  · go_wp2
    rw [← HW2.out]
    obtain ⟨hrX, hrV, hb12⟩ := HR01.out
    clear HR01 HW2 mk
    generalize hbo : w1.heap.size + 1 = bV at hrV ⊢
    generalize hbe : w1.heap.size = bX at hrX ⊢
    have hne : bX ≠ bV := by omega
    have hbXg : w1.heap.size ≤ bX := by omega
    have hbVg : w1.heap.size ≤ bV := by omega
    clear hbo hbe
    have HX0 := Lib.hid hrX
    have HV0 := Lib.hid hrV
    have HB0 := Lib.hid hb12
    clear hrX hrV hb12
    go_loopw [34] (fun I wr => ∃ i : Nat, I = .int .i64 (i : Int) ∧ i ≤ m ∧ wr.rowIs bX 22 m (ku .u32 fun j => if j < i then j else 0) ∧ wr.rowIs bV 22 m (ku .u32 fun j => if j < i then resF p m y j else 0) ∧ (∀ j, j < i → balB p (y j) = true) ∧ Below w1.heap.size w1 wr) (fun I _ => m - (intOf I).toNat)
    case atStart => exact ⟨0, rfl, Nat.zero_le _, HX0.out.congr fun _ _ => rfl, HV0.out.congr fun _ _ => rfl, fun j hj => by omega, HB0.out⟩
    case round =>
      clear HX0 HV0 HB0
      obtain ⟨i, rfl, him, hrX, hrV, hall, hbl⟩ := hrel
      have HX := Lib.hid hrX
      have HV := Lib.hid hrV
      have HAL := Lib.hid hall
      have HBE := Lib.hid hbl
      have hzr := hbl.size
      clear hrX hrV hall hbl
      by_cases hin : i < m
      · have e3 : decide ((i : Int) < (m : Int)) = true := decide_eq_true (by omega)
        obtain ⟨g, off, hAe, _, hg, hcell⟩ := ((HY.out.below HB1.out (Nat.le_refl _)).below HBE.out hz1).2 (by omega)
        have k1 := hcell i hin
        obtain ⟨v, hv⟩ : ∃ v, y i = v := ⟨_, rfl⟩
        rw [hv] at k1
        rw [hAe]
        have HBA := Lib.hid (balanced25_any p v wr hp3 (by omega) hodd)
        have i0 : 0 ≤ (i : Int) := by omega
        have i1 : (i : Int) < (m : Int) := by omega
        cases hbv : balB p v with
        | false =>
          rw [hbv] at HBA
          have HN : Hid (¬ TbOk p m y) := Lib.hid fun h => by
            have := h.2 i hin
            rw [hv, hbv] at this
            cases this
          clear hcell hv hAe hbv
          go_wp2_with (go_at_call 31; refine HBA.out.mono ?_; rintro e w' ⟨rfl, hw⟩; subst hw)
          go_ret2
          exact ⟨HB1.out.trans (HBE.out.mono hz1), .inr (.inl ⟨HF0.out, HN.out, rfl⟩)⟩
        | true =>
          rw [hbv] at HBA
          obtain ⟨b1, b2⟩ := balB_yes.1 hbv
          obtain ⟨r, hr⟩ : ∃ r : Nat, (r : Int) = (v + p) % (p : Int) := ⟨((v + p) % (p : Int)).toNat, by rw [Int.toNat_of_nonneg]; exact Int.emod_nonneg _ (by omega)⟩
          have hrb : r < p := by have := Int.emod_lt_of_pos (v + p) (show (0 : Int) < p by omega); omega
          have hrt : (v + (p : Int)).tmod (p : Int) = (r : Int) := by rw [Int.tmod_eq_emod_of_nonneg (by omega), hr]
          have hri : (v + (p : Int)) % (p : Int) = (r : Int) := hr.symm
          have HRS : Hid (resF p m y i = r) := Lib.hid (by unfold resF; rw [if_pos hin, hv, ← hr]; simp)
          have kx := HX.out.cell hin
          have kxf := HX.out.frozen i
          have kv := HV.out.cell hin
          have kvf := HV.out.frozen i
          simp only [ku] at kx kv
          rw [if_neg (by omega)] at kx kv
          have HALN : Hid (∀ j, j < i + 1 → balB p (y j) = true) := Lib.hid fun j hj => by
            rcases Nat.lt_or_eq_of_le (Nat.le_of_lt_succ hj) with h6 | h6
            · exact HAL.out j h6
            · rw [h6, hv]; exact hbv
          have hp0 : ¬ p = 0 := by omega
          clear hcell hv hAe hbv hr
          go_wp2_with (go_at_call 31; refine HBA.out.mono ?_; rintro e w' ⟨rfl, hw⟩; subst hw)
          have HXN : Hid (∀ j, (if j = i then i else if j < i then j else 0) = (if j < i + 1 then j else 0)) := Lib.hid fun j => by
            by_cases hji : j = i
            · rw [if_pos hji, if_pos (by omega), hji]
            · rw [if_neg hji]
              by_cases h2 : j < i
              · rw [if_pos h2, if_pos (by omega)]
              · rw [if_neg h2, if_neg (by omega)]
          have HVN : Hid (∀ j, (if j = i then r else if j < i then resF p m y j else 0) = (if j < i + 1 then resF p m y j else 0)) := Lib.hid fun j => by
            by_cases hji : j = i
            · rw [if_pos hji, if_pos (by omega), hji, HRS.out]
            · rw [if_neg hji]
              by_cases h2 : j < i
              · rw [if_pos h2, if_pos (by omega)]
              · rw [if_neg h2, if_neg (by omega)]
          go_region
          all_goals
            go_wp2
            go_roundw
            case rel =>
              refine ⟨i + 1, by go_num, hin, ?_, ?_, HALN.out, ?_⟩
              · first
                  | exact ((rowIs_set_ku HX.out i i).setOther hne _).drew.congr fun j _ => by simp only [ku]; rw [HXN.out]
                  | exact (rowIs_set_ku (HX.out.setOther hne _) i i).drew.congr fun j _ => by simp only [ku]; rw [HXN.out]
              · first
                  | exact (rowIs_set_ku (HV.out.setOther hne.symm _) i r).drew.congr fun j _ => by simp only [ku]; rw [HVN.out]
                  | exact ((rowIs_set_ku HV.out i r).setOther hne.symm _).drew.congr fun j _ => by simp only [ku]; rw [HVN.out]
              · first
                  | exact ((HBE.out.setCell (p := ⟨bX, i, none⟩) hbXg _).setCell (p := ⟨bV, i, none⟩) hbVg _).drew
                  | exact ((HBE.out.setCell (p := ⟨bV, i, none⟩) hbVg _).setCell (p := ⟨bX, i, none⟩) hbXg _).drew
            case measure => simp only [intOf]; omega
      · obtain rfl : m = i := by omega
        have e3 : decide ((m : Int) < (m : Int)) = false := decide_eq_false (by omega)
        have HOK : Hid (TbOk p m y) := Lib.hid ⟨hmp, HAL.out⟩
        have hb1r := HB1.out.trans (HBE.out.mono hz1)
        have hz1r := hb1r.size
        have hsx : Sq .u32 wr 0 wr.heap.size (some ⟨bX, 0, none⟩) m (idF m) := Sq.of_row HX.out (Nat.le_refl _) (Nat.zero_le _) HX.out.lt (fun j hj => if_neg (by omega)) fun j hj => by unfold idF; rfl
        have hsv : Sq .u32 wr 0 wr.heap.size (some ⟨bV, 0, none⟩) m (resF p m y) := Sq.of_row HV.out (Nat.le_refl _) (Nat.zero_le _) HV.out.lt (fun j hj => if_neg (by omega)) fun j hj => by rw [if_pos hj]
        have HI := Lib.hid (interp_any p m m m m _ _ (idF m) (resF p m y) wr hsx hsv hm hm hp)
        clear hsx hsv
        go_wp2_with fail
        refine HI.out.mono ?_
        rintro e w5 ⟨A5, c5, E5, k5, f5, rfl, hkc, hsq5, hip, hb5⟩
        obtain ⟨rfl, hthr⟩ := ipR_ok HF0.out hmp hip
        have HTH := Lib.hid hthr
        have HQ5 := Lib.hid hsq5
        have hb15 := hb1r.trans (hb5.mono hz1r)
        have hz5 := hb15.size
        have hz15 := hb5.size
        have hk5 : k5 ≤ 256 := by have := hthr.le; omega
        clear hip hthr hsq5
        go_wp2_with (at_make; refine Z.wpl_make rfl _ _ _ rfl e64s' .i64 .i64 _ _ k5 rfl rfl rfl rfl (by omega) (by unfold maxLen; omega) ?_; intro w6 hr6 hb6 hs6)
        have HR6 := Lib.hid hr6
        clear hr6
        go_loopw [75] (fun I wr2 => ∃ i : Nat, I = .int .i64 (i : Int) ∧ i ≤ k5 ∧ wr2.rowIs w5.heap.size 2 k5 (Z.ku .i64 fun j => if j < i then balF p k5 f5 j else 0) ∧ Below w5.heap.size w5 wr2) (fun I _ => k5 - (intOf I).toNat)
        case atStart => exact ⟨0, rfl, Nat.zero_le _, HR6.out.congr fun _ _ => rfl, hb6⟩
        case round =>
          clear HR6
          obtain ⟨i, rfl, hik, hrow, hbl⟩ := hrel
          have HRW := Lib.hid hrow
          have HBE2 := Lib.hid hbl
          clear hrow hbl
          by_cases hin : i < k5
          · have e4 : decide ((i : Int) < (k5 : Int)) = true := decide_eq_true (by omega)
            obtain ⟨g, off, hAe, _, hg, hcell⟩ := (HQ5.out.below HBE2.out (Nat.le_refl _)).2 (by omega)
            have k1 := hcell i hin
            obtain ⟨v, hv⟩ : ∃ v, f5 i = v := ⟨_, rfl⟩
            have hvp : v < p := by rw [← hv]; exact HTH.out.rs.1 i
            rw [hv] at k1
            rw [hAe]
            have HBA := Lib.hid (reduce25_any p (v : Int) wr hp3 (by omega) hodd)
            obtain ⟨vb, hvb⟩ : ∃ vb, bal p (v : Int) = vb := ⟨_, rfl⟩
            rw [hvb] at HBA
            have HVB : Hid (balF p k5 f5 i = vb) := Lib.hid (by unfold balF; rw [if_pos hin, hv, hvb])
            have ko := HRW.out.cell hin
            have kof := HRW.out.frozen i
            simp only [Z.ku] at ko
            rw [if_neg (by omega)] at ko
            have i0 : 0 ≤ (i : Int) := by omega
            have i1 : (i : Int) < (k5 : Int) := by omega
            clear hcell hv hAe hvb
            go_wp2_with (go_at_call 33; refine HBA.out.mono ?_; rintro e w' ⟨rfl, hw⟩; subst hw)
            go_roundw
            case rel =>
              refine ⟨i + 1, by go_num, hin, (Z.rowIs_set_ku HRW.out i vb).congr fun j _ => ?_, HBE2.out.setCell (p := ⟨w5.heap.size, i, none⟩) (Nat.le_refl _) _⟩
              simp only [Z.ku]
              congr 1
              by_cases hji : j = i
              · rw [if_pos hji, hji, if_pos (Nat.lt_succ_self i), HVB.out]
              · rw [if_neg hji]
                by_cases h2 : j < i
                · rw [if_pos h2, if_pos (by omega)]
                · rw [if_neg h2, if_neg (by omega)]
            case measure => simp only [intOf]; omega
          · obtain rfl : k5 = i := by omega
            have e4 : decide ((k5 : Int) < (k5 : Int)) = false := decide_eq_false (by omega)
            go_wp2
            go_ret2
            refine ⟨hb15.trans (HBE2.out.mono hz5), .inr (.inr ⟨HF0.out, HOK.out, _, _, k5, f5, rfl, HTH.out, Z.Sq.of_row HRW.out (Nat.le_refl _) hz5 HRW.out.lt (fun j hj => if_neg (by omega)) fun j hj => by rw [if_pos hj]⟩)⟩
  · go_wp2
    rw [← HW2.out]
    obtain ⟨hrV, hrX, hb12⟩ := HR01.out
    clear HR01 HW2 mk
    generalize hbo : w1.heap.size + 1 = bX at hrX ⊢
    generalize hbe : w1.heap.size = bV at hrV ⊢
    have hne : bX ≠ bV := by omega
    have hbXg : w1.heap.size ≤ bX := by omega
    have hbVg : w1.heap.size ≤ bV := by omega
    clear hbo hbe
    have HX0 := Lib.hid hrX
    have HV0 := Lib.hid hrV
    have HB0 := Lib.hid hb12
    clear hrX hrV hb12
    go_loopw [34] (fun I wr => ∃ i : Nat, I = .int .i64 (i : Int) ∧ i ≤ m ∧ wr.rowIs bX 22 m (ku .u32 fun j => if j < i then j else 0) ∧ wr.rowIs bV 22 m (ku .u32 fun j => if j < i then resF p m y j else 0) ∧ (∀ j, j < i → balB p (y j) = true) ∧ Below w1.heap.size w1 wr) (fun I _ => m - (intOf I).toNat)
    case atStart => exact ⟨0, rfl, Nat.zero_le _, HX0.out.congr fun _ _ => rfl, HV0.out.congr fun _ _ => rfl, fun j hj => by omega, HB0.out⟩
    case round =>
      clear HX0 HV0 HB0
      obtain ⟨i, rfl, him, hrX, hrV, hall, hbl⟩ := hrel
      have HX := Lib.hid hrX
      have HV := Lib.hid hrV
      have HAL := Lib.hid hall
      have HBE := Lib.hid hbl
      have hzr := hbl.size
      clear hrX hrV hall hbl
      by_cases hin : i < m
      · have e3 : decide ((i : Int) < (m : Int)) = true := decide_eq_true (by omega)
        obtain ⟨g, off, hAe, _, hg, hcell⟩ := ((HY.out.below HB1.out (Nat.le_refl _)).below HBE.out hz1).2 (by omega)
        have k1 := hcell i hin
        obtain ⟨v, hv⟩ : ∃ v, y i = v := ⟨_, rfl⟩
        rw [hv] at k1
        rw [hAe]
        have HBA := Lib.hid (balanced25_any p v wr hp3 (by omega) hodd)
        have i0 : 0 ≤ (i : Int) := by omega
        have i1 : (i : Int) < (m : Int) := by omega
        cases hbv : balB p v with
        | false =>
          rw [hbv] at HBA
          have HN : Hid (¬ TbOk p m y) := Lib.hid fun h => by
            have := h.2 i hin
            rw [hv, hbv] at this
            cases this
          clear hcell hv hAe hbv
          go_wp2_with (go_at_call 31; refine HBA.out.mono ?_; rintro e w' ⟨rfl, hw⟩; subst hw)
          go_ret2
          exact ⟨HB1.out.trans (HBE.out.mono hz1), .inr (.inl ⟨HF0.out, HN.out, rfl⟩)⟩
        | true =>
          rw [hbv] at HBA
          obtain ⟨b1, b2⟩ := balB_yes.1 hbv
          obtain ⟨r, hr⟩ : ∃ r : Nat, (r : Int) = (v + p) % (p : Int) := ⟨((v + p) % (p : Int)).toNat, by rw [Int.toNat_of_nonneg]; exact Int.emod_nonneg _ (by omega)⟩
          have hrb : r < p := by have := Int.emod_lt_of_pos (v + p) (show (0 : Int) < p by omega); omega
          have hrt : (v + (p : Int)).tmod (p : Int) = (r : Int) := by rw [Int.tmod_eq_emod_of_nonneg (by omega), hr]
          have hri : (v + (p : Int)) % (p : Int) = (r : Int) := hr.symm
          have HRS : Hid (resF p m y i = r) := Lib.hid (by unfold resF; rw [if_pos hin, hv, ← hr]; simp)
          have kx := HX.out.cell hin
          have kxf := HX.out.frozen i
          have kv := HV.out.cell hin
          have kvf := HV.out.frozen i
          simp only [ku] at kx kv
          rw [if_neg (by omega)] at kx kv
          have HALN : Hid (∀ j, j < i + 1 → balB p (y j) = true) := Lib.hid fun j hj => by
            rcases Nat.lt_or_eq_of_le (Nat.le_of_lt_succ hj) with h6 | h6
            · exact HAL.out j h6
            · rw [h6, hv]; exact hbv
          have hp0 : ¬ p = 0 := by omega
          clear hcell hv hAe hbv hr
          go_wp2_with (go_at_call 31; refine HBA.out.mono ?_; rintro e w' ⟨rfl, hw⟩; subst hw)
          have HXN : Hid (∀ j, (if j = i then i else if j < i then j else 0) = (if j < i + 1 then j else 0)) := Lib.hid fun j => by
            by_cases hji : j = i
            · rw [if_pos hji, if_pos (by omega), hji]
            · rw [if_neg hji]
              by_cases h2 : j < i
              · rw [if_pos h2, if_pos (by omega)]
              · rw [if_neg h2, if_neg (by omega)]
          have HVN : Hid (∀ j, (if j = i then r else if j < i then resF p m y j else 0) = (if j < i + 1 then resF p m y j else 0)) := Lib.hid fun j => by
            by_cases hji : j = i
            · rw [if_pos hji, if_pos (by omega), hji, HRS.out]
            · rw [if_neg hji]
              by_cases h2 : j < i
              · rw [if_pos h2, if_pos (by omega)]
              · rw [if_neg h2, if_neg (by omega)]
          go_region
          all_goals
            go_wp2
            go_roundw
            case rel =>
              refine ⟨i + 1, by go_num, hin, ?_, ?_, HALN.out, ?_⟩
              · first
                  | exact ((rowIs_set_ku HX.out i i).setOther hne _).drew.congr fun j _ => by simp only [ku]; rw [HXN.out]
                  | exact (rowIs_set_ku (HX.out.setOther hne _) i i).drew.congr fun j _ => by simp only [ku]; rw [HXN.out]
              · first
                  | exact (rowIs_set_ku (HV.out.setOther hne.symm _) i r).drew.congr fun j _ => by simp only [ku]; rw [HVN.out]
                  | exact ((rowIs_set_ku HV.out i r).setOther hne.symm _).drew.congr fun j _ => by simp only [ku]; rw [HVN.out]
              · first
                  | exact ((HBE.out.setCell (p := ⟨bX, i, none⟩) hbXg _).setCell (p := ⟨bV, i, none⟩) hbVg _).drew
                  | exact ((HBE.out.setCell (p := ⟨bV, i, none⟩) hbVg _).setCell (p := ⟨bX, i, none⟩) hbXg _).drew
            case measure => simp only [intOf]; omega
      · obtain rfl : m = i := by omega
        have e3 : decide ((m : Int) < (m : Int)) = false := decide_eq_false (by omega)
        have HOK : Hid (TbOk p m y) := Lib.hid ⟨hmp, HAL.out⟩
        have hb1r := HB1.out.trans (HBE.out.mono hz1)
        have hz1r := hb1r.size
        have hsx : Sq .u32 wr 0 wr.heap.size (some ⟨bX, 0, none⟩) m (idF m) := Sq.of_row HX.out (Nat.le_refl _) (Nat.zero_le _) HX.out.lt (fun j hj => if_neg (by omega)) fun j hj => by unfold idF; rfl
        have hsv : Sq .u32 wr 0 wr.heap.size (some ⟨bV, 0, none⟩) m (resF p m y) := Sq.of_row HV.out (Nat.le_refl _) (Nat.zero_le _) HV.out.lt (fun j hj => if_neg (by omega)) fun j hj => by rw [if_pos hj]
        have HI := Lib.hid (interp_any p m m m m _ _ (idF m) (resF p m y) wr hsx hsv hm hm hp)
        clear hsx hsv
        go_wp2_with fail
        refine HI.out.mono ?_
        rintro e w5 ⟨A5, c5, E5, k5, f5, rfl, hkc, hsq5, hip, hb5⟩
        obtain ⟨rfl, hthr⟩ := ipR_ok HF0.out hmp hip
        have HTH := Lib.hid hthr
        have HQ5 := Lib.hid hsq5
        have hb15 := hb1r.trans (hb5.mono hz1r)
        have hz5 := hb15.size
        have hz15 := hb5.size
        have hk5 : k5 ≤ 256 := by have := hthr.le; omega
        clear hip hthr hsq5
        go_wp2_with (at_make; refine Z.wpl_make rfl _ _ _ rfl e64s' .i64 .i64 _ _ k5 rfl rfl rfl rfl (by omega) (by unfold maxLen; omega) ?_; intro w6 hr6 hb6 hs6)
        have HR6 := Lib.hid hr6
        clear hr6
        go_loopw [75] (fun I wr2 => ∃ i : Nat, I = .int .i64 (i : Int) ∧ i ≤ k5 ∧ wr2.rowIs w5.heap.size 2 k5 (Z.ku .i64 fun j => if j < i then balF p k5 f5 j else 0) ∧ Below w5.heap.size w5 wr2) (fun I _ => k5 - (intOf I).toNat)
        case atStart => exact ⟨0, rfl, Nat.zero_le _, HR6.out.congr fun _ _ => rfl, hb6⟩
        case round =>
          clear HR6
          obtain ⟨i, rfl, hik, hrow, hbl⟩ := hrel
          have HRW := Lib.hid hrow
          have HBE2 := Lib.hid hbl
          clear hrow hbl
          by_cases hin : i < k5
          · have e4 : decide ((i : Int) < (k5 : Int)) = true := decide_eq_true (by omega)
            obtain ⟨g, off, hAe, _, hg, hcell⟩ := (HQ5.out.below HBE2.out (Nat.le_refl _)).2 (by omega)
            have k1 := hcell i hin
            obtain ⟨v, hv⟩ : ∃ v, f5 i = v := ⟨_, rfl⟩
            have hvp : v < p := by rw [← hv]; exact HTH.out.rs.1 i
            rw [hv] at k1
            rw [hAe]
            have HBA := Lib.hid (reduce25_any p (v : Int) wr hp3 (by omega) hodd)
            obtain ⟨vb, hvb⟩ : ∃ vb, bal p (v : Int) = vb := ⟨_, rfl⟩
            rw [hvb] at HBA
            have HVB : Hid (balF p k5 f5 i = vb) := Lib.hid (by unfold balF; rw [if_pos hin, hv, hvb])
            have ko := HRW.out.cell hin
            have kof := HRW.out.frozen i
            simp only [Z.ku] at ko
            rw [if_neg (by omega)] at ko
            have i0 : 0 ≤ (i : Int) := by omega
            have i1 : (i : Int) < (k5 : Int) := by omega
            clear hcell hv hAe hvb
            go_wp2_with (go_at_call 33; refine HBA.out.mono ?_; rintro e w' ⟨rfl, hw⟩; subst hw)
            go_roundw
            case rel =>
              refine ⟨i + 1, by go_num, hin, (Z.rowIs_set_ku HRW.out i vb).congr fun j _ => ?_, HBE2.out.setCell (p := ⟨w5.heap.size, i, none⟩) (Nat.le_refl _) _⟩
              simp only [Z.ku]
              congr 1
              by_cases hji : j = i
              · rw [if_pos hji, hji, if_pos (Nat.lt_succ_self i), HVB.out]
              · rw [if_neg hji]
                by_cases h2 : j < i
                · rw [if_pos h2, if_pos (by omega)]
                · rw [if_neg h2, if_neg (by omega)]
            case measure => simp only [intOf]; omega
          · obtain rfl : k5 = i := by omega
            have e4 : decide ((k5 : Int) < (k5 : Int)) = false := decide_eq_false (by omega)
            go_wp2
            go_ret2
            refine ⟨hb15.trans (HBE2.out.mono hz5), .inr (.inr ⟨HF0.out, HOK.out, _, _, k5, f5, rfl, HTH.out, Z.Sq.of_row HRW.out (Nat.le_refl _) hz5 HRW.out.lt (fun j hj => if_neg (by omega)) fun j hj => by rw [if_pos hj]⟩)⟩
end Go.Proofs.Ytmidpholmgmdpaa
