/- The contracts of Equal and Less of layer 25. -/
import Derived.Test.YtmidpholmgmdpaaT25
import Derived.Test.YtmidpholmgmdpaaRn25
namespace Go.Proofs.Ytmidpholmgmdpaa
open Go.RowKit
set_option linter.unusedVariables false

/-- the table that is 1 from a number on, before another one -/
def stF (a b : Nat) (j : Nat) : Int := if a ≤ j ∧ j < b then 1 else 0
def RetSt (w : World) (p a b : Nat) (e : Ending) (w' : World) : Prop := ∃ A c, e = .returned (.slice A p c) ∧ Z.Sq .i64 w' w.heap.size w'.heap.size A p (stF a b) ∧ Below w.heap.size w w'

set_option maxRecDepth 100000 in
set_option maxHeartbeats 4000000 in
theorem steps25_any (p a b : Nat) (w : World) (hp : p ≤ 65535) (hab : a ≤ b) (hb : b ≤ p) :
    Calls Try.prog 49 #[.int .u32 p, .int .i64 (a : Int), .int .i64 (b : Int)] w (RetSt w p a b) := by
  go_enter Try.func49, Try.ntmps49
  go_wp2_with (at_make; refine Z.wpl_make rfl _ _ _ rfl e64s' .u32 .u32 _ _ p rfl rfl rfl rfl (by omega) (by unfold maxLen; omega) ?_; intro w6 hr6 hb6 hs6)
  have HR6 := Lib.hid hr6
  have HB6 := Lib.hid hb6
  clear hr6 hb6
  go_loopw [8] (fun I wr => ∃ i : Nat, I = .int .i64 (i : Int) ∧ a ≤ i ∧ i ≤ b ∧ wr.rowIs w.heap.size 2 p (Z.ku .i64 (stF a i)) ∧ Below w.heap.size w wr) (fun I _ => b - (intOf I).toNat)
  case atStart => exact ⟨a, rfl, Nat.le_refl _, hab, HR6.out.congr fun j _ => by simp only [Z.ku]; congr 1; unfold stF; rw [if_neg (by omega)], HB6.out⟩
  case round =>
    clear HR6 HB6
    obtain ⟨i, rfl, hai, hib, hrow, hbl⟩ := hrel
    have HRW := Lib.hid hrow
    have HBL := Lib.hid hbl
    clear hrow hbl
    by_cases hin : i < b
    · have e3 : decide ((i : Int) < (b : Int)) = true := decide_eq_true (by omega)
      have ko := HRW.out.cell (show i < p by omega)
      have kof := HRW.out.frozen i
      simp only [Z.ku] at ko
      have i0 : 0 ≤ (i : Int) := by omega
      have i1 : (i : Int) < (p : Int) := by omega
      go_wp2
      go_roundw
      case rel =>
        refine ⟨i + 1, by go_num, by omega, hin, (Z.rowIs_set_ku HRW.out i 1).congr fun j _ => ?_, HBL.out.setCell (p := ⟨w.heap.size, i, none⟩) (Nat.le_refl _) _⟩
        simp only [Z.ku]
        congr 1
        unfold stF
        by_cases hj : j = i
        · rw [if_pos hj, if_pos (by omega)]
        · rw [if_neg hj]
          by_cases h2 : a ≤ j ∧ j < i
          · rw [if_pos h2, if_pos (by omega)]
          · rw [if_neg h2, if_neg (by omega)]
      case measure => simp only [intOf]; omega
    · obtain rfl : b = i := by omega
      have e3 : decide ((b : Int) < (b : Int)) = false := decide_eq_false (by omega)
      go_wp2
      go_ret
      exact ⟨_, _, rfl, Z.Sq.of_row HRW.out (Nat.le_refl _) (Nat.le_refl _) HRW.out.lt (fun j hj => by unfold stF; rw [if_neg (by omega)]) fun j _ => rfl, HBL.out⟩
/-- what Equal and Less leave -/
def RetCp (w : World) (p : Nat) (ok : Prop) (y : Nat → Int) (e : Ending) (w' : World) : Prop :=
  Below w.heap.size w w' ∧ ((fieldE p ≠ 0 ∧ e = .returned (.tuple #[.slice none 0 0, .int .i64 (fieldE p)])) ∨ (fieldE p = 0 ∧ ¬ ok ∧ e = .returned (.tuple #[.slice none 0 0, .int .i64 2])) ∨
    (fieldE p = 0 ∧ ok ∧ ∃ A c k f, e = .returned (.tuple #[.slice A k c, .int .i64 0]) ∧ Thr p p (idF p) (resF p p y) k f ∧ Z.Sq .i64 w' w.heap.size w'.heap.size A k (balF p k f)))
theorem stF_tb {p a b : Nat} (h3 : 3 ≤ p) : TbOk p p (stF a b) := ⟨Nat.le_refl _, fun i _ => by
  unfold stF
  split
  · exact balB_yes.2 ⟨by omega, by omega⟩
  · exact balB_yes.2 ⟨by omega, by omega⟩⟩

set_option maxRecDepth 100000 in
set_option maxHeartbeats 4000000 in
theorem equal25_any (p : Nat) (c : Int) (w : World) (hp : p ≤ 4294967295) (hc : -9223372036854775808 ≤ c ∧ c ≤ 9223372036854775807) :
    Calls Try.prog 27 #[.int .u32 p, .int .i64 c] w (RetCp w p (balB p c = true) (stF ((c + p) % (p : Int)).toNat (((c + p) % (p : Int)).toNat + 1))) := by
  have HF := Lib.hid (field25_any p w hp)
  by_cases hf0 : fieldE p = 0
  rotate_left
  · have HN := Lib.hid hf0
    obtain ⟨E, hE⟩ : ∃ E, fieldE p = E := ⟨_, rfl⟩
    rw [hE] at HF hf0
    have e1 : (E != 0) = true := by simp [hf0]
    have HE := Lib.hid hE
    clear hf0 hE
    go_enter Try.func27, Try.ntmps27
    go_wp2_with fail
    refine HF.out.mono ?_
    rintro e w1 ⟨rfl, hb1⟩
    go_wp2_with fail
    go_ret2
    exact ⟨hb1, .inl ⟨HN.out, by rw [HE.out]; rfl⟩⟩
  obtain ⟨hp3, hp256, hodd, hpr⟩ := field_ok hf0
  have HF0 := Lib.hid hf0
  rw [hf0] at HF
  clear hf0 hpr
  have HBA := Lib.hid (fun (W : World) => balanced25_any p c W hp3 (by omega) hodd)
  cases hbc : balB p c with
  | false =>
    rw [hbc] at HBA
    go_enter Try.func27, Try.ntmps27
    go_wp2_with fail
    refine HF.out.mono ?_
    rintro e w1 ⟨rfl, hb1⟩
    go_wp2_with (go_at_call 31; refine (HBA.out _).mono ?_; rintro e w' ⟨rfl, hw⟩; subst hw)
    go_ret2
    exact ⟨hb1, .inr (.inl ⟨HF0.out, Bool.false_ne_true, rfl⟩)⟩
  | true =>
    rw [hbc] at HBA
    obtain ⟨b1, b2⟩ := balB_yes.1 hbc
    clear hbc
    obtain ⟨r, hr⟩ : ∃ r : Nat, (r : Int) = (c + p) % (p : Int) := ⟨((c + p) % (p : Int)).toNat, by rw [Int.toNat_of_nonneg]; exact Int.emod_nonneg _ (by omega)⟩
    have hrb : r < p := by have := Int.emod_lt_of_pos (c + p) (show (0 : Int) < p by omega); omega
    have hrt : (c + (p : Int)).tmod (p : Int) = (r : Int) := by rw [Int.tmod_eq_emod_of_nonneg (by omega), hr]
    have hri : (c + (p : Int)) % (p : Int) = (r : Int) := hr.symm
    have HRI := Lib.hid hri
    have hp0 : ¬ p = 0 := by omega
    clear hr
    go_enter Try.func27, Try.ntmps27
    go_wp2_with fail
    refine HF.out.mono ?_
    rintro e w1 ⟨rfl, hb1⟩
    have HB1 := Lib.hid hb1
    clear hb1
    go_wp2_with (go_at_call 31; refine (HBA.out _).mono ?_; rintro e w' ⟨rfl, hw⟩; subst hw)
    refine (steps25_any p r (r + 1) w1 (by omega) (by omega) (by omega)).mono ?_
    rintro e w2 ⟨A2, c2, rfl, hs2, hb2⟩
    have HB2 := Lib.hid (HB1.out.trans (hb2.mono HB1.out.size))
    have HT := Lib.hid (table25_any p p c2 A2 _ w2 hp (hs2.wide (Nat.zero_le _) (Nat.le_refl _)) (by omega))
    clear hs2 hb2
    go_wp2_with fail
    refine HT.out.mono ?_
    rintro e w3 ⟨hb3, hh⟩
    have HB3 := Lib.hid (HB2.out.trans (hb3.mono HB2.out.size))
    rcases hh with ⟨h, _⟩ | ⟨_, h, _⟩ | ⟨_, _, A3, c3, k, f, rfl, hth, hsq⟩
    · exact absurd HF0.out h
    · exact absurd (stF_tb hp3) h
    · have HTH := Lib.hid hth
      have HSQ := Lib.hid hsq
      clear hb3 hth hsq
      go_wp2_with fail
      go_ret2
      exact ⟨HB3.out, .inr (.inr ⟨HF0.out, by trivial, A3, c3, k, f, rfl, by rw [HRI.out]; exact HTH.out, HSQ.out.wide HB2.out.size (Nat.le_refl _)⟩)⟩

set_option maxRecDepth 100000 in
set_option maxHeartbeats 4000000 in
theorem less25_any (p : Nat) (c : Int) (w : World) (hp : p ≤ 4294967295) (hc : -9223372036854775808 ≤ c ∧ c ≤ 9223372036854775807) :
    Calls Try.prog 28 #[.int .u32 p, .int .i64 c] w (RetCp w p (0 ≤ c ∧ c ≤ (p : Int)) (stF 0 c.toNat)) := by
  have HF := Lib.hid (field25_any p w hp)
  by_cases hf0 : fieldE p = 0
  rotate_left
  · have HN := Lib.hid hf0
    obtain ⟨E, hE⟩ : ∃ E, fieldE p = E := ⟨_, rfl⟩
    rw [hE] at HF hf0
    have e1 : (E != 0) = true := by simp [hf0]
    have HE := Lib.hid hE
    clear hf0 hE
    go_enter Try.func28, Try.ntmps28
    go_wp2_with fail
    refine HF.out.mono ?_
    rintro e w1 ⟨rfl, hb1⟩
    go_wp2_with fail
    go_ret2
    exact ⟨hb1, .inl ⟨HN.out, by rw [HE.out]; rfl⟩⟩
  obtain ⟨hp3, hp256, hodd, hpr⟩ := field_ok hf0
  have HF0 := Lib.hid hf0
  rw [hf0] at HF
  clear hf0 hpr
  have hcase : c < 0 ∨ (0 ≤ c ∧ (p : Int) < c) ∨ (0 ≤ c ∧ c ≤ (p : Int)) := by omega
  rcases hcase with h1 | ⟨h0, h1⟩ | ⟨h0, h1⟩
  · have d1 : decide (c < 0) = true := decide_eq_true h1
    go_enter Try.func28, Try.ntmps28
    go_wp2_with fail
    refine HF.out.mono ?_
    rintro e w1 ⟨rfl, hb1⟩
    go_wp2_with fail
    go_ret2
    exact ⟨hb1, .inr (.inl ⟨HF0.out, fun h => by omega, rfl⟩)⟩
  · have d1 : decide (c < 0) = false := decide_eq_false (by omega)
    have d2 : decide (c > (p : Int)) = true := decide_eq_true (by omega)
    have d3 : decide ((p : Int) < c) = true := decide_eq_true (by omega)
    go_enter Try.func28, Try.ntmps28
    go_wp2_with fail
    refine HF.out.mono ?_
    rintro e w1 ⟨rfl, hb1⟩
    go_wp2_with fail
    go_ret2
    exact ⟨hb1, .inr (.inl ⟨HF0.out, fun h => by omega, rfl⟩)⟩
  · obtain ⟨n, rfl⟩ : ∃ n : Nat, c = (n : Int) := ⟨c.toNat, by omega⟩
    have d1 : decide ((n : Int) < 0) = false := decide_eq_false (by omega)
    have d2 : decide ((n : Int) > (p : Int)) = false := decide_eq_false (by omega)
    have d3 : decide (p < n) = false := decide_eq_false (by omega)
    go_enter Try.func28, Try.ntmps28
    go_wp2_with fail
    refine HF.out.mono ?_
    rintro e w1 ⟨rfl, hb1⟩
    have HB1 := Lib.hid hb1
    clear hb1
    go_wp2_with fail
    refine (steps25_any p 0 n w1 (by omega) (by omega) (by omega)).mono ?_
    rintro e w2 ⟨A2, c2, rfl, hs2, hb2⟩
    have HB2 := Lib.hid (HB1.out.trans (hb2.mono HB1.out.size))
    have HT := Lib.hid (table25_any p p c2 A2 _ w2 hp (hs2.wide (Nat.zero_le _) (Nat.le_refl _)) (by omega))
    clear hs2 hb2
    go_wp2_with fail
    refine HT.out.mono ?_
    rintro e w3 ⟨hb3, hh⟩
    have HB3 := Lib.hid (HB2.out.trans (hb3.mono HB2.out.size))
    rcases hh with ⟨h, _⟩ | ⟨_, h, _⟩ | ⟨_, _, A3, c3, k, f, rfl, hth, hsq⟩
    · exact absurd HF0.out h
    · exact absurd (stF_tb hp3) h
    · have HTH := Lib.hid hth
      have HSQ := Lib.hid hsq
      clear hb3 hth hsq
      go_wp2_with fail
      go_ret2
      exact ⟨HB3.out, .inr (.inr ⟨HF0.out, ⟨h0, h1⟩, A3, c3, k, f, rfl, by rw [Int.toNat_natCast]; exact HTH.out, HSQ.out.wide HB2.out.size (Nat.le_refl _)⟩)⟩
end Go.Proofs.Ytmidpholmgmdpaa
