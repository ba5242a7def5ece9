/- The contract of the reference's Table. -/
import Derived.Test.YtmidpholmgmdpaaT25
namespace Go.Proofs.Ytmidpholmgmdpaa
open Go.RowKit
set_option linter.unusedVariables false

/-- the first values of a function of natural numbers -/
def trM (m : Nat) (f : Nat → Nat) (j : Nat) : Nat := if j < m then f j else 0
theorem trM_add {m : Nat} {f : Nat → Nat} (j : Nat) : trM (m + 1) f (m + j) = oneF (f m) j := by
  unfold trM oneF
  by_cases h : j = 0
  · subst h; rw [if_pos (by omega), if_pos rfl, Nat.add_zero]
  · rw [if_neg (by omega), if_neg h]
theorem trM_lt {m j : Nat} {f : Nat → Nat} (h : j < m) : trM (m + 1) f j = trM m f j := by unfold trM; rw [if_pos h, if_pos (by omega)]

def trI (m : Nat) (f : Nat → Int) (j : Nat) : Int := if j < m then f j else 0
theorem trI_add {m : Nat} {f : Nat → Int} (j : Nat) : trI (m + 1) f (m + j) = Z.oneF (f m) j := by
  unfold trI Z.oneF
  by_cases h : j = 0
  · subst h; rw [if_pos (by omega), if_pos rfl, Nat.add_zero]
  · rw [if_neg (by omega), if_neg h]
theorem trI_lt {m j : Nat} {f : Nat → Int} (h : j < m) : trI (m + 1) f j = trI m f j := by unfold trI; rw [if_pos h, if_pos (by omega)]
theorem ownBlock_some {A : Option Addr} {n c g : Nat} (h : (Value.slice A n c).ownBlock = some g) : ∃ off pa, A = some ⟨g, off, pa⟩ := by
  rcases A with _ | ⟨b, off, pa⟩
  · simp [Value.ownBlock] at h
  · simp [Value.ownBlock] at h
    subst h
    exact ⟨off, pa, rfl⟩
/-- two slices of the call's own that lie apart -/
theorem own_apart {k : IntKind} {w : World} {base e nx cx : Nat} {A AX : Option Addr} {f : Nat → Nat} (hX : Own k w base e AX nx cx f) (hne : ∀ g, A = some ⟨g, 0, none⟩ → AX ≠ some ⟨g, 0, none⟩) : ∀ g, A = some ⟨g, 0, none⟩ → (Value.slice AX nx cx).ownBlock ≠ some g := fun g hA hb => by
  obtain ⟨off, pa, rfl⟩ := ownBlock_some hb
  rcases hX.cases with ⟨h1, _⟩ | ⟨g2, h1, _⟩
  · cases h1
  · cases h1
    exact hne g hA rfl
/-- .. behind an append to one of them -/
theorem own_apart_new {k : IntKind} {w : World} {base e nx cx s : Nat} {A A' AX : Option Addr} {f : Nat → Nat} (hX : Own k w base e AX nx cx f) (hs : w.heap.size ≤ s) (hne : ∀ g, A = some ⟨g, 0, none⟩ → AX ≠ some ⟨g, 0, none⟩) (h3 : A' = A ∨ A' = some ⟨s, 0, none⟩) : ∀ g, A' = some ⟨g, 0, none⟩ → AX ≠ some ⟨g, 0, none⟩ := fun g hA hX2 => by
  rcases h3 with rfl | rfl
  · exact hne g hA hX2
  · cases hA
    rcases hX.cases with ⟨h1, _⟩ | ⟨g2, h1, _, h2, _⟩
    · rw [h1] at hX2; cases hX2
    · rw [h1] at hX2
      cases hX2
      omega
/-- a slice of the call's own behind an append to another one -/
theorem own_beside {k : IntKind} {w w' : World} {base e n c nx cx : Nat} {A AX : Option Addr} {f : Nat → Nat} (h : Own k w base e A n c f) (o : Obj) (hg : (w.alloc o).grownBy w' (Value.slice AX nx cx).ownBlock) (hne : ∀ g, A = some ⟨g, 0, none⟩ → (Value.slice AX nx cx).ownBlock ≠ some g) : Own k w' base e A n c f :=
  (h.alloc o).grown hg hne

set_option maxRecDepth 100000 in
set_option maxHeartbeats 4000000 in
theorem rtable25_any (p m c : Nat) (A : Option Addr) (y : Nat → Int) (w : World) (hp : p ≤ 4294967295) (hy : Z.Sq .i64 w 0 w.heap.size A m y) (hm : m ≤ 9223372036854775807) :
    Calls Try.prog 13 #[.int .u32 p, .slice A m c] w (RetTb w p m y) := by
  have HF := Lib.hid (rfield25_any p w hp)
  have HY := Lib.hid hy
  clear hy
  by_cases hf0 : fieldE p = 0
  rotate_left
  · have HN := Lib.hid hf0
    obtain ⟨E, hE⟩ : ∃ E, fieldE p = E := ⟨_, rfl⟩
    rw [hE] at HF hf0
    have e1 : (E != 0) = true := by simp [hf0]
    have HE := Lib.hid hE
    clear hf0 hE
    go_enter Try.func13, Try.ntmps13
    go_wp2_with fail
    refine HF.out.mono ?_
    rintro e w1 ⟨rfl, hb1⟩
    go_wp2_with fail
    go_ret2
    exact ⟨hb1, .inl ⟨HN.out, by rw [HE.out]; rfl⟩⟩
  obtain ⟨hp3, hp256, hodd, hpr⟩ := field_ok hf0
  have HF0 := Lib.hid hf0
  rw [hf0] at HF
  clear hf0 hpr
  by_cases hmp : m ≤ p
  rotate_left
  · have HN : Hid (¬ TbOk p m y) := Lib.hid fun h => hmp h.1
    have e1 : decide ((m : Int) > (p : Int)) = true := decide_eq_true (by omega)
    have e2 : decide (p < m) = true := decide_eq_true (by omega)
    clear hmp
    go_enter Try.func13, Try.ntmps13
    go_wp2_with fail
    refine HF.out.mono ?_
    rintro e w1 ⟨rfl, hb1⟩
    go_wp2_with fail
    go_ret2
    exact ⟨hb1, .inr (.inl ⟨HF0.out, HN.out, rfl⟩)⟩
  have e1 : decide ((m : Int) > (p : Int)) = false := decide_eq_false (by omega)
  have e2 : decide (p < m) = false := decide_eq_false (by omega)
  go_enter Try.func13, Try.ntmps13
  go_wp2_with fail
  refine HF.out.mono ?_
  rintro e w1 ⟨rfl, hb1⟩
  have hz1 := hb1.size
  have HB1 := Lib.hid hb1
  clear hb1
  go_wp2_with fail
  go_loopw [7, 8, 9] (fun X V I wr => ∃ (i : Nat) (AX AV : Option Addr) (cX cV : Nat), i ≤ m ∧ I = .int .i64 (i : Int) ∧ X = .slice AX i cX ∧ V = .slice AV i cV ∧ Own .u32 wr w1.heap.size 22 AX i cX (trM i (idF m)) ∧ Own .u32 wr w1.heap.size 22 AV i cV (trM i (resF p m y)) ∧ (∀ g, AX = some ⟨g, 0, none⟩ → AV ≠ some ⟨g, 0, none⟩) ∧ (∀ j, j < i → balB p (y j) = true) ∧ Below w1.heap.size w1 wr) (fun _ _ I _ => m - (intOf I).toNat)
  case atStart => exact ⟨0, none, none, 0, 0, Nat.zero_le _, rfl, rfl, rfl, Own.congr (Own.nil _ _ _ _) (fun j => (if_neg (by omega)).symm), Own.congr (Own.nil _ _ _ _) (fun j => (if_neg (by omega)).symm), (fun g h => by cases h), (fun j hj => by omega), Below.refl _ _⟩
  case round =>
    obtain ⟨i, AX, AV, cX, cV, him, rfl, rfl, rfl, hoX, hoV, hne, hall, hbl⟩ := hrel
    have HOX := Lib.hid hoX
    have HOV := Lib.hid hoV
    have HNE := Lib.hid hne
    have HAL := Lib.hid hall
    have HBE := Lib.hid hbl
    have hzr := hbl.size
    clear hoX hoV hne hall hbl
    by_cases hin : i < m
    · have e3 : decide ((i : Int) < (m : Int)) = true := decide_eq_true (by omega)
      obtain ⟨g, off, hAe, _, hg, hcell⟩ := ((HY.out.below HB1.out (Nat.le_refl _)).below HBE.out hz1).2 (by omega)
      have k1 := hcell i hin
      obtain ⟨v, hv⟩ : ∃ v, y i = v := ⟨_, rfl⟩
      rw [hv] at k1
      rw [hAe]
      have HBA := Lib.hid (rbalanced25_any p v wr hp3 (by omega) hodd)
      have i0 : 0 ≤ (i : Int) := by omega
      have i1 : (i : Int) < (m : Int) := by omega
      cases hbv : balB p v with
      | false =>
        rw [hbv] at HBA
        have HN : Hid (¬ TbOk p m y) := Lib.hid fun h => by
          have := h.2 i hin
          rw [hv, hbv] at this
          cases this
        clear hcell hv hAe hbv
        go_wp2_with (go_at_call 26; refine HBA.out.mono ?_; rintro e w' ⟨rfl, hw⟩; subst hw)
        go_ret2
        exact ⟨HB1.out.trans (HBE.out.mono hz1), .inr (.inl ⟨HF0.out, HN.out, rfl⟩)⟩
      | true =>
        rw [hbv] at HBA
        obtain ⟨b1, b2⟩ := balB_yes.1 hbv
        obtain ⟨r, hr⟩ : ∃ r : Nat, (r : Int) = (v + p) % (p : Int) := ⟨((v + p) % (p : Int)).toNat, by rw [Int.toNat_of_nonneg]; exact Int.emod_nonneg _ (by omega)⟩
        have hrb : r < p := by have := Int.emod_lt_of_pos (v + p) (show (0 : Int) < p by omega); omega
        have hrt : (v + (p : Int)).tmod (p : Int) = (r : Int) := by rw [Int.tmod_eq_emod_of_nonneg (by omega), hr]
        have hri : (v + (p : Int)) % (p : Int) = (r : Int) := hr.symm
        have HRS : Hid (Value.int .u32 (r : Int) = .int .u32 ((resF p m y i : Nat) : Int)) := Lib.hid (by unfold resF; rw [if_pos hin, hv, ← hr]; simp)
        have HIS : Hid (Value.int .u32 (i : Int) = .int .u32 ((idF m i : Nat) : Int)) := Lib.hid (by unfold idF; rw [if_pos hin])
        have HALN : Hid (∀ j, j < i + 1 → balB p (y j) = true) := Lib.hid fun j hj => by
          rcases Nat.lt_or_eq_of_le (Nat.le_of_lt_succ hj) with h6 | h6
          · exact HAL.out j h6
          · rw [h6, hv]; exact hbv
        have hp0 : ¬ p = 0 := by omega
        have HC := Lib.hid hcell
        have HG := Lib.hid hg
        have HHV := Lib.hid hv
        clear hcell hv hAe hbv hr
        go_wp2_with (first
          | (go_at_call 26; refine HBA.out.mono ?_; rintro e w' ⟨rfl, hw⟩; subst hw)
          | (at_builtin; refine wpl_append rfl (.tmp 36) (.tmp 39) _ rfl e32' rfl (HOX.out.alloc _) rfl (sq_one (x := idF m i) (lo := 0) HIS.out (Nat.zero_le _) (Nat.lt_succ_self _)) (trM (i + 1) (idF m)) (fun j hj => trM_lt hj) trM_add (by unfold maxLen; omega) (by omega) (by simp; omega) ?_; intro AX3 cX3 w3 hoX3 hgX3 hbX3 hatX3; have hb3 : Below w1.heap.size wr w3 := ((Below.refl _ wr).alloc hzr _).trans hbX3; have k1 := (hb3.cell (p := ⟨g, off + i, none⟩) (by show g < _; have := HG.out; omega)).trans k1; have hz3 := hb3.size; have HOX3 := Lib.hid hoX3; have HOV3 := Lib.hid (own_beside HOV.out _ hgX3 (own_apart HOX.out (fun g hA hX => HNE.out g hX hA))); have HNE3 := Lib.hid (own_apart_new HOV.out (s := wr.heap.size + 1) (by omega) HNE.out (by rw [World.size_alloc] at hatX3; exact hatX3)); clear hoX3 hgX3 hbX3 hatX3)
          | (at_builtin; refine wpl_append rfl (.tmp 41) (.tmp 53) _ rfl e32' rfl (HOV3.out.alloc _) rfl (sq_one (x := resF p m y i) (lo := 0) HRS.out (Nat.zero_le _) (Nat.lt_succ_self _)) (trM (i + 1) (resF p m y)) (fun j hj => trM_lt hj) trM_add (by unfold maxLen; omega) (by omega) (by simp; omega) ?_; intro AV4 cV4 w4 hoV4 hgV4 hbV4 hatV4; have hb4 : Below w1.heap.size w3 w4 := ((Below.refl _ w3).alloc (by omega) _).trans hbV4))
        have hoX4 := own_beside HOX3.out _ hgV4 (own_apart HOV3.out HNE3.out)
        have hne4 := own_apart_new HOX3.out (s := w3.heap.size + 1) (by omega) (fun g hA hX => HNE3.out g hX hA) (by rw [World.size_alloc] at hatV4; exact hatV4)
        go_roundw
        case rel => exact ⟨i + 1, AX3, AV4, cX3, cV4, hin, by go_num, rfl, rfl, hoX4, hoV4, (fun g hX hV => hne4 g hV hX), HALN.out, HBE.out.trans (hb3.trans hb4)⟩
        case measure => simp only [intOf]; omega
    · obtain rfl : m = i := by omega
      have e3 : decide ((m : Int) < (m : Int)) = false := decide_eq_false (by omega)
      have HOK : Hid (TbOk p m y) := Lib.hid ⟨hmp, HAL.out⟩
      have hb1r := HB1.out.trans (HBE.out.mono hz1)
      have hz1r := hb1r.size
      have HI := Lib.hid (rinterp_any p m m cX cV AX AV (idF m) (resF p m y) wr wr.heap.size ((HOX.out.sq (Nat.zero_le _)).congr fun j => by unfold trM idF; by_cases h : j < m <;> simp [h]) ((HOV.out.sq (Nat.zero_le _)).congr fun j => by unfold trM resF; by_cases h : j < m <;> simp [h]) (Nat.le_refl _) hm hm hp)
      go_wp2_with fail
      refine HI.out.mono ?_
      rintro e w5 ⟨A5, c5, E5, k5, f5, rfl, hkc, hsq5, hip, hb5⟩
      obtain ⟨rfl, hthr⟩ := ipR_ok HF0.out hmp hip
      have HTH := Lib.hid hthr
      have HQ5 := Lib.hid hsq5
      have hb15 := hb1r.trans (hb5.mono hz1r)
      have hz5 := hb15.size
      have hz15 := hb5.size
      have hk5 : k5 ≤ 256 := by have := hthr.le; omega
      clear hip hthr hsq5
      go_wp2_with fail
      go_loopw [11, 12] (fun O I wr2 => ∃ (i : Nat) (B : Option Addr) (cB : Nat), i ≤ k5 ∧ O = .slice B i cB ∧ I = .int .i64 (i : Int) ∧ Z.Own .i64 wr2 w5.heap.size 2 B i cB (trI i fun j => bal p ((f5 j : Nat) : Int)) ∧ Below w5.heap.size w5 wr2) (fun _ I _ => k5 - (intOf I).toNat)
      case atStart => exact ⟨0, none, 0, Nat.zero_le _, rfl, rfl, Z.Own.congr (Z.Own.nil _ _ _ _) (fun j => (if_neg (by omega)).symm), Below.refl _ _⟩
      case round =>
        obtain ⟨i, B, cB, hik, rfl, rfl, hown, hbl⟩ := hrel
        have HOWN := Lib.hid hown
        have HBE2 := Lib.hid hbl
        have hzb := hbl.size
        clear hown hbl
        by_cases hin : i < k5
        · have e4 : decide ((i : Int) < (k5 : Int)) = true := decide_eq_true (by omega)
          obtain ⟨g, off, hAe, _, hg, hcell⟩ := (HQ5.out.below HBE2.out (Nat.le_refl _)).2 (by omega)
          have k1 := hcell i hin
          obtain ⟨v, hv⟩ : ∃ v, f5 i = v := ⟨_, rfl⟩
          have hvp : v < p := by rw [← hv]; exact HTH.out.rs.1 i
          rw [hv] at k1
          rw [hAe]
          have HBA := Lib.hid (rbal8_any (v : Int) p wr hp3 (by omega) hodd)
          have HVB : Hid (Value.int .i64 (bal p (v : Int)) = .int .i64 (bal p ((f5 i : Nat) : Int))) := Lib.hid (by rw [hv])
          have i0 : 0 ≤ (i : Int) := by omega
          have i1 : (i : Int) < (k5 : Int) := by omega
          clear hcell hv hAe
          go_wp2_with (first | (go_at_call 37; refine HBA.out.mono ?_; rintro e w' ⟨rfl, hw⟩; subst hw) | (at_builtin; refine Z.wpl_append rfl _ _ _ rfl e64s' rfl (HOWN.out.alloc _) rfl (Z.sq_one (x := bal p ((f5 i : Nat) : Int)) (lo := 0) HVB.out (Nat.zero_le _) (Nat.lt_succ_self _)) (trI (i + 1) fun j => bal p ((f5 j : Nat) : Int)) (fun j hj => trI_lt hj) trI_add (by unfold maxLen; omega) (by omega) (by simp; omega) ?_; intro B3 cB3 w3 hown3 hg3 hb3 hat3))
          go_roundw
          case rel => exact ⟨i + 1, B3, cB3, hin, rfl, by go_num, hown3, HBE2.out.trans (((Below.refl _ wr).alloc hzb _).trans hb3)⟩
          case measure => simp only [intOf]; omega
        · obtain rfl : k5 = i := by omega
          have e4 : decide ((k5 : Int) < (k5 : Int)) = false := decide_eq_false (by omega)
          go_wp2
          go_ret2
          refine ⟨hb15.trans (HBE2.out.mono hz5), .inr (.inr ⟨HF0.out, HOK.out, B, cB, k5, f5, rfl, HTH.out, Z.Sq.congr (HOWN.out.sq hz5) fun j => rfl⟩)⟩
end Go.Proofs.Ytmidpholmgmdpaa
