/- The plain law of Make: what the maker's relations make, as polynomials; the depths. No program in sight. -/
import Derived.Test.YtmidpholmgmdpaaPl25
namespace Go.Proofs.Ytmidpholmgmdpaa
open Go.RowKit
set_option linter.unusedVariables false

/-- a constant and numbers at registers, as a polynomial -/
def comb (s : Nat → PS) (n : Nat) (a : Int) (f : Nat → Option Int) : Nat → Int := fun q => (if q = 0 then a else 0) + zsum (fun j => (f j).getD 0 * plD s j q) (n + 1)
theorem zsum_ext {f : Nat → Int} {n m : Nat} (hnm : n ≤ m) (h : ∀ j, n ≤ j → f j = 0) : zsum f m = zsum f n := by
  obtain ⟨k, rfl⟩ : ∃ k, m = n + k := ⟨m - n, by omega⟩
  rw [zsum_more, zsum_zero k fun i _ => h (n + i) (by omega), Int.add_zero]
theorem comb_upd {s : Nat → PS} {n R : Nat} {a v : Int} {f : Nat → Option Int} (hR : R ≤ n) (hf : f R = none) (q : Nat) : comb s n a (upd f R (some v)) q = comb s n a f q + v * plD s R q := by
  unfold comb
  have e : zsum (fun j => (upd f R (some v) j).getD 0 * plD s j q) (n + 1) = zsum (fun j => (f j).getD 0 * plD s j q + (if j = R then v * plD s R q else 0)) (n + 1) := zsum_congr _ fun j _ => by
    by_cases h : j = R
    · subst h
      rw [upd_same, hf, if_pos rfl]
      show v * plD s j q = (0 : Int) * plD s j q + v * plD s j q
      rw [Int.zero_mul, Int.zero_add]
    · rw [upd_other _ _ h, if_neg h, Int.add_zero]
  rw [e, zsum_add, zsum_one (f := fun j => if j = R then v * plD s R q else 0) (j := R) (n + 1) (by omega) fun i _ hi => if_neg hi, if_pos rfl]
  omega
theorem comb_ext {σ σ' : MSt} {a : Int} {f : Nat → Option Int} (h : Ex σ σ') (hf : ∀ j, f j ≠ none → j ≤ σ.n) : comb σ'.s σ'.n a f = comb σ.s σ.n a f := funext fun q => by
  unfold comb
  congr 1
  have e1 : zsum (fun j => (f j).getD 0 * plD σ'.s j q) (σ'.n + 1) = zsum (fun j => (f j).getD 0 * plD σ'.s j q) (σ.n + 1) := zsum_ext (by have := h.1; omega) fun j hj => by
    cases hfj : f j with
    | none => exact Int.zero_mul _
    | some v => have := hf j (by rw [hfj]; exact fun e => by cases e); omega
  rw [e1]
  exact zsum_congr _ fun j hj => by rw [h.pl (by omega)]
theorem dlt_inj {i j : Nat} (h : dlt i = dlt j) : i = j := by
  have := congrFun h i
  unfold dlt at this
  rw [if_pos rfl] at this
  by_cases e : i = j
  · exact e
  · rw [if_neg e] at this; cases this
/-- a register of a power -/
def IsPw (σ : MSt) (k R : Nat) : Prop := R ≤ σ.n ∧ plD σ.s R = dlt k ∧ ∀ e : Nat, k ≤ 2 ^ e → depD σ.s R ≤ e
theorem IsPw.ext {σ σ' : MSt} {k R : Nat} (h : IsPw σ k R) (x : Ex σ σ') : IsPw σ' k R :=
  ⟨Nat.le_trans h.1 x.1, (x.pl h.1).trans h.2.1, fun e he => by rw [x.dep h.1]; exact h.2.2 e he⟩
/-- a state of the maker whose powers are powers -/
structure Gd (t : Nat) (σ : MSt) : Prop where
  ok : PlnOk t σ.n σ.s
  f1 : σ.f 1 = some 0
  pw : ∀ k r, σ.f k = some r → ∃ R : Nat, r = (R : Int) ∧ IsPw σ k R
theorem Gd.push {t : Nat} {σ : MSt} {S : PS} (h : Gd t σ) (hS : stepOk t (σ.n + 1) S) : Gd t (σ.push S) :=
  ⟨push_ok h.ok hS, h.f1, fun k r hk => by
    obtain ⟨R, h1, h2⟩ := h.pw k r hk
    exact ⟨R, h1, h2.ext (Ex.push σ S)⟩⟩
theorem PowR.law {t : Nat} {σ σ' : MSt} {k : Nat} {r : Int} (h : PowR σ k σ' r) (hk : 1 ≤ k) (g : Gd t σ) : Gd t σ' ∧ Ex σ σ' ∧ ∃ R : Nat, r = (R : Int) ∧ IsPw σ' k R := by
  induction h with
  | hit h => exact ⟨g, Ex.refl _, g.pw _ _ h⟩
  | @mk σ σ1 σ2 k a b h _ _ ih1 ih2 =>
    have hk1 : k ≠ 1 := fun e => by rw [e, g.f1] at h; cases h
    obtain ⟨g1, x1, A, rfl, pA⟩ := ih1 (by omega) g
    obtain ⟨g2, x2, B, rfl, pB⟩ := ih2 (by omega) g1
    have pA2 := pA.ext x2
    have hS : stepOk t (σ2.n + 1) (mulS (A : Int) (B : Int)) := by
      unfold stepOk
      rw [if_pos (show (mulS (A : Int) (B : Int)).mul = true from rfl)]
      have := pA2.1
      have := pB.1
      exact ⟨⟨by show (0 : Int) ≤ (A : Int); omega, by show (A : Int) < ((σ2.n + 1 : Nat) : Int); omega, by show (0 : Int) ≤ (B : Int); omega, by show (B : Int) < ((σ2.n + 1 : Nat) : Int); omega⟩, rfl, rfl⟩
    have g3 := g2.push hS
    have x3 := Ex.push σ2 (mulS (A : Int) (B : Int))
    have hnew : IsPw (σ2.push (mulS (A : Int) (B : Int))) k (σ2.n + 1) := by
      refine ⟨Nat.le_refl _, ?_, fun e he => ?_⟩
      · rw [push_pl hS]
        funext q
        show (if (true : Bool) = true then cnv (plD σ2.s ((A : Int).toNat)) (plD σ2.s ((B : Int).toNat)) q else _) + zsum _ 0 = _
        rw [if_pos rfl, Int.toNat_natCast, Int.toNat_natCast, pA2.2.1, pB.2.1, dlt_dlt, show (k + 1) / 2 + k / 2 = k from by omega]
        exact Int.add_zero _
      · rw [push_dep hS]
        obtain ⟨e', rfl⟩ : ∃ e', e = e' + 1 := ⟨e - 1, by
          rcases e with _ | e
          · have : k ≤ 1 := he; omega
          · omega⟩
        rw [Nat.pow_succ] at he
        have d1 := pA2.2.2 e' (by omega)
        have d2 := pB.2.2 e' (by omega)
        show (1 : Int) + (if depD σ2.s ((B : Int).toNat) > depD σ2.s ((A : Int).toNat) then depD σ2.s ((B : Int).toNat) else depD σ2.s ((A : Int).toNat)) ≤ ((e' + 1 : Nat) : Int)
        rw [Int.toNat_natCast, Int.toNat_natCast]
        split <;> omega
    refine ⟨⟨g3.ok, (upd_other _ _ (fun e => hk1 e.symm)).trans g3.f1, fun k' r' hk' => ?_⟩, (x1.trans x2).trans x3, σ2.n + 1, rfl, hnew⟩
    by_cases e : k' = k
    · subst e
      have h2 : some ((σ2.n : Int) + 1) = some r' := (upd_same (σ2.push (mulS (A : Int) (B : Int))).f k' _).symm.trans hk'
      injection h2 with h2
      exact ⟨σ2.n + 1, h2.symm, hnew⟩
    · exact g3.pw k' r' ((upd_other (σ2.push (mulS (A : Int) (B : Int))).f (some ((σ2.n : Int) + 1)) e).symm.trans hk')
theorem mxs_le {f cs : Nat → Int} {d e : Int} (n : Nat) (hd : d ≤ e) (h : ∀ k, k < n → cs k ≠ 0 → f k ≤ e) : mxs f cs d n ≤ e := by
  induction n with
  | zero => exact hd
  | succ n ih =>
    have i := ih fun k hk hc => h k (by omega) hc
    unfold mxs
    by_cases hc : cs n = 0
    · rw [if_pos hc]; exact i
    · rw [if_neg hc]
      split
      · exact h n (by omega) hc
      · exact i
theorem RegR.law {t : Nat} {σ σ' : MSt} {a r : Int} {f : Nat → Option Int} (h : RegR σ a f σ' r) (ht : 3 ≤ t) (g : Gd t σ) (ha : balB t a = true) (hf : ∀ j v, f j = some v → j ≤ σ.n ∧ balB t v = true) :
    Gd t σ' ∧ Ex σ σ' ∧ ∃ R : Nat, r = (R : Int) ∧ R ≤ σ'.n ∧ plD σ'.s R = comb σ.s σ.n a f ∧ ∀ e : Nat, (∀ j, f j ≠ none → depD σ.s j ≤ e) → depD σ'.s R ≤ e := by
  cases h with
  | @one _ r h h2 =>
    refine ⟨g, Ex.refl _, r, rfl, (hf r 1 h).1, ?_, fun e he => he r (by rw [h]; exact fun e => by cases e)⟩
    funext q
    unfold comb
    have hr := (hf r 1 h).1
    rw [zsum_one (f := fun j => (f j).getD 0 * plD σ.s j q) (j := r) (σ.n + 1) (by omega) fun i _ hi => by
      cases hfi : f i with
      | none => exact Int.zero_mul _
      | some v => exact absurd (h2 i (by rw [hfi]; exact fun e => by cases e)) hi]
    rw [h]
    show plD σ.s r q = (if q = 0 then (0 : Int) else 0) + 1 * plD σ.s r q
    split <;> omega
  | mk h1 h2 h3 h4 h5 h6 h7 =>
    rename_i S
    have hb0 : balB t 0 = true := balB_yes.2 ⟨by omega, by omega⟩
    have hS : stepOk t (σ.n + 1) S := by
      unfold stepOk
      rw [if_neg (by rw [h1]; exact Bool.false_ne_true)]
      refine ⟨h2, h3, h5, by rw [h4]; exact ha, fun j _ => ?_⟩
      rw [h6]
      cases hfj : f j with
      | none => exact hb0
      | some v => exact (hf j v hfj).2
    refine ⟨g.push hS, Ex.push _ _, σ.n + 1, rfl, Nat.le_refl _, ?_, fun e he => ?_⟩
    · rw [push_pl hS]
      funext q
      unfold plS comb
      rw [if_neg (by rw [h1]; exact Bool.false_ne_true), h4]
      congr 1
      rw [zsum_congr (f := fun k => S.cs k * plD σ.s k q) (g := fun j => (f j).getD 0 * plD σ.s j q) S.n fun j _ => by rw [h6]]
      exact (zsum_ext h5 fun j hj => by rw [← h6, h7 j hj, Int.zero_mul]).symm
    · rw [push_dep hS]
      unfold dst
      rw [if_neg (by rw [h1]; exact Bool.false_ne_true)]
      refine mxs_le _ (by omega) fun k hk hc => he k fun hn => hc ?_
      rw [h6, hn]
      rfl
theorem PowsR.law {t : Nat} {c : Nat → Int} {σ σ' : MSt} {i : Nat} {a : Int} {f : Nat → Option Int} (h : PowsR c σ i σ' a f) (ht : 3 ≤ t) (g : Gd t σ) (hc : ∀ j, balB t (c j) = true) :
    Gd t σ' ∧ Ex σ σ' ∧ balB t a = true ∧ (∀ j v, f j = some v → ∃ i', 1 ≤ i' ∧ i' < i ∧ v = c i' ∧ IsPw σ' i' j) ∧ ∀ q, comb σ'.s σ'.n a f q = if q < i then c q else 0 := by
  induction h with
  | nil =>
    refine ⟨g, Ex.refl _, balB_yes.2 ⟨by omega, by omega⟩, (fun j v h => by injection h), fun q => ?_⟩
    unfold comb
    rw [zsum_zero (f := fun j => ((fun _ => none : Nat → Option Int) j).getD 0 * plD σ.s j q) (σ.n + 1) fun j _ => Int.zero_mul _, if_neg (Nat.not_lt_zero q)]
    split <;> rfl
  | @head σ' a f h ih =>
    obtain ⟨g1, x1, b1, k1, c1⟩ := ih
    refine ⟨g1, x1, hc 0, fun j v hj => ?_, fun q => ?_⟩
    · obtain ⟨i', p1, p2, _⟩ := k1 j v hj
      omega
    · have e := c1 q
      rw [if_neg (Nat.not_lt_zero q)] at e
      unfold comb at e ⊢
      have hz : zsum (fun j => (f j).getD 0 * plD σ'.s j q) (σ'.n + 1) = 0 := zsum_zero _ fun j _ => by
        cases hfj : f j with
        | none => exact Int.zero_mul _
        | some v =>
          obtain ⟨i', p1, p2, _⟩ := k1 j v hfj
          omega
      rw [hz, Int.add_zero]
      by_cases hq : q = 0
      · subst hq; rw [if_pos rfl, if_pos (by omega)]
      · rw [if_neg hq, if_neg (by omega)]
  | @skip σ' i a f h hi h0 ih =>
    obtain ⟨g1, x1, b1, k1, c1⟩ := ih
    refine ⟨g1, x1, b1, fun j v hj => ?_, fun q => ?_⟩
    · obtain ⟨i', p1, p2, p3⟩ := k1 j v hj
      exact ⟨i', p1, by omega, p3⟩
    · rw [c1 q]
      by_cases hq : q = i
      · subst hq; rw [if_neg (Nat.lt_irrefl _), if_pos (Nat.lt_succ_self _), h0]
      · by_cases h2 : q < i
        · rw [if_pos h2, if_pos (by omega)]
        · rw [if_neg h2, if_neg (by omega)]
  | @pow σ1 σ2 i R a f h hi h0 hp ih =>
    obtain ⟨g1, x1, b1, k1, c1⟩ := ih
    obtain ⟨g2, x2, R', e, pw⟩ := hp.law hi g1
    obtain rfl : R = R' := by omega
    have hkeys : ∀ j, f j ≠ none → j ≤ σ1.n := fun j hj => by
      cases hfj : f j with
      | none => exact absurd hfj hj
      | some v =>
        obtain ⟨i', _, _, _, p⟩ := k1 j v hfj
        exact p.1
    have hR : f R = none := by
      cases hfR : f R with
      | none => rfl
      | some v =>
        obtain ⟨i', p1, p2, p3, p4⟩ := k1 R v hfR
        have := dlt_inj ((p4.ext x2).2.1.symm.trans pw.2.1)
        omega
    refine ⟨g2, x1.trans x2, b1, fun j v hj => ?_, fun q => ?_⟩
    · by_cases ej : j = R
      · subst ej
        have h2 : some (c i) = some v := (upd_same f j _).symm.trans hj
        injection h2 with h2
        exact ⟨i, hi, Nat.lt_succ_self _, h2.symm, pw⟩
      · obtain ⟨i', p1, p2, p3, p4⟩ := k1 j v ((upd_other f (some (c i)) ej).symm.trans hj)
        exact ⟨i', p1, by omega, p3, p4.ext x2⟩
    · rw [comb_upd pw.1 hR, comb_ext x2 hkeys, c1 q, pw.2.1]
      unfold dlt
      by_cases hq : q = i
      · subst hq; rw [if_neg (Nat.lt_irrefl _), if_pos rfl, if_pos (Nat.lt_succ_self _)]; omega
      · rw [if_neg hq, Int.mul_zero, Int.add_zero]
        by_cases h2 : q < i
        · rw [if_pos h2, if_pos (by omega)]
        · rw [if_neg h2, if_neg (by omega)]
theorem pow_lt_half {a e : Nat} (h : 2 ^ a < 2 ^ e) : ∃ e', e = e' + 1 ∧ 2 ^ a ≤ 2 ^ e' := by
  rcases Nat.lt_or_ge a e with h1 | h1
  · exact ⟨e - 1, by omega, Nat.pow_le_pow_right (by omega) (by omega)⟩
  · have := Nat.pow_le_pow_right (show 0 < 2 by omega) h1
    omega
theorem FormR.law {t bb : Nat} {σ σ' : MSt} {m : Nat} {c : Nat → Int} {a : Int} {f : Nat → Option Int} (h : FormR bb σ m c σ' a f) (hbb : 1 ≤ bb) (hm : m ≤ 1000000) (ht : 3 ≤ t) (g : Gd t σ) (hc : ∀ j, balB t (c j) = true) (hz : ∀ j, m ≤ j → c j = 0) :
    Gd t σ' ∧ Ex σ σ' ∧ balB t a = true ∧ (∀ j v, f j = some v → j ≤ σ'.n ∧ balB t v = true) ∧ comb σ'.s σ'.n a f = c ∧ ∀ e : Nat, m - 1 ≤ 2 ^ e → ∀ j, f j ≠ none → depD σ'.s j ≤ e := by
  induction h with
  | @trim σ σ' m c a f h h0 ih =>
    obtain ⟨a1, a2, a3, a4, a5, a6⟩ := ih (by omega) g hc fun j hj => by
      rcases Nat.lt_or_eq_of_le hj with h | h
      · exact hz j (by omega)
      · rw [← h]; exact h0
    exact ⟨a1, a2, a3, a4, a5, fun e he => a6 e (by omega)⟩
  | @base σ σ' m c a f hm2 h =>
    obtain ⟨a1, a2, a3, a4, a5⟩ := h.law ht g hc
    refine ⟨a1, a2, a3, fun j v hj => ?_, funext fun q => ?_, fun e he j hj => ?_⟩
    · obtain ⟨i', _, _, p3, p4⟩ := a4 j v hj
      exact ⟨p4.1, by rw [p3]; exact hc _⟩
    · rw [a5 q]
      split
      · rfl
      · exact (hz q (by omega)).symm
    · cases hfj : f j with
      | none => exact absurd hfj hj
      | some v =>
        obtain ⟨i', p1, p2, p3, p4⟩ := a4 j v hfj
        exact p4.2.2 e (by omega)
  | @split σ σ1 σ2 σ3 σ4 m h c b1 b2 rh rp f1 f2 hm2 h0 hh _ hr _ hp ih1 ih3 =>
    have hh2 := halfOf_lt (m := m) (by omega) hm
    have hb0 : balB t 0 = true := balB_yes.2 ⟨by omega, by omega⟩
    rw [hh] at hh2
    obtain ⟨a1, a2, a3, a4, a5, a6⟩ := ih1 (by omega) g (fun j => hc _) fun j hj => hz _ (by omega)
    obtain ⟨r1, r2, RH, rfl, r3, r4, r5⟩ := hr.law ht a1 a3 a4
    obtain ⟨d1, d2, d3, d4, d5, d6⟩ := ih3 (by omega) r1 (fun j => by unfold lowF; split; exact hc _; exact hb0) fun j hj => if_neg (by omega)
    obtain ⟨p1, p2, RP, rfl, p3⟩ := hp.law (by omega) d1
    have hRH : RH ≤ σ4.n := Nat.le_trans r3 (Nat.le_trans d2.1 p2.1)
    have hS : stepOk t (σ4.n + 1) (mulS (RH : Int) (RP : Int)) := by
      unfold stepOk
      rw [if_pos (show (mulS (RH : Int) (RP : Int)).mul = true from rfl)]
      have := p3.1
      exact ⟨⟨by show (0 : Int) ≤ (RH : Int); omega, by show (RH : Int) < ((σ4.n + 1 : Nat) : Int); omega, by show (0 : Int) ≤ (RP : Int); omega, by show (RP : Int) < ((σ4.n + 1 : Nat) : Int); omega⟩, rfl, rfl⟩
    have x5 := Ex.push σ4 (mulS (RH : Int) (RP : Int))
    have hk2 : ∀ j, f2 j ≠ none → j ≤ σ3.n := fun j hj => by
      cases hfj : f2 j with
      | none => exact absurd hfj hj
      | some v => exact (d4 j v hfj).1
    have hnone : f2 (σ4.n + 1) = none := by
      cases hfj : f2 (σ4.n + 1) with
      | none => rfl
      | some v => have := (d4 _ v hfj).1; have := p2.1; omega
    have hpl : plD (σ4.push (mulS (RH : Int) (RP : Int))).s (σ4.n + 1) = fun q => if q < h then 0 else c q := by
      rw [push_pl hS]
      funext q
      show (if (true : Bool) = true then cnv (plD σ4.s ((RH : Int).toNat)) (plD σ4.s ((RP : Int).toNat)) q else _) + zsum _ 0 = _
      rw [if_pos rfl, Int.toNat_natCast, Int.toNat_natCast, p3.2.1, p2.pl (Nat.le_trans r3 d2.1), d2.pl r3, r4, a5, cnv_dlt]
      show (if q < h then 0 else highF h c (q - h)) + 0 = _
      rw [Int.add_zero]
      by_cases hq : q < h
      · rw [if_pos hq, if_pos hq]
      · rw [if_neg hq, if_neg hq]
        unfold highF
        rw [Nat.add_sub_cancel' (by omega)]
    refine ⟨p1.push hS, ((((a2.trans r2).trans d2).trans p2).trans x5), d3, fun j v hj => ?_, funext fun q => ?_, fun e he j hj => ?_⟩
    · by_cases ej : j = σ4.n + 1
      · subst ej
        have h2 : some (1 : Int) = some v := (upd_same f2 (σ4.n + 1) _).symm.trans hj
        injection h2 with h2
        subst h2
        exact ⟨Nat.le_refl _, balB_yes.2 ⟨by omega, by omega⟩⟩
      · have := d4 j v ((upd_other f2 (some 1) ej).symm.trans hj)
        exact ⟨by have := p2.1; show j ≤ σ4.n + 1; omega, this.2⟩
    · show comb (σ4.push (mulS (RH : Int) (RP : Int))).s (σ4.n + 1) b2 (upd f2 (σ4.n + 1) (some 1)) q = c q
      rw [comb_upd (Nat.le_refl _) hnone, hpl]
      have e1 : comb (σ4.push (mulS (RH : Int) (RP : Int))).s (σ4.n + 1) b2 f2 = comb σ3.s σ3.n b2 f2 := comb_ext (σ := σ3) (σ' := σ4.push (mulS (RH : Int) (RP : Int))) (p2.trans x5) hk2
      rw [e1, d5]
      unfold lowF
      by_cases hq : q < h
      · simp only [if_pos hq]; omega
      · simp only [if_neg hq]; omega
    · have hhp : ∃ L, h = 2 ^ L := ⟨_, hh.symm⟩
      obtain ⟨L, hL⟩ := hhp
      obtain ⟨e', rfl, he'⟩ := pow_lt_half (a := L) (e := e) (by rw [← hL]; omega)
      rw [← hL] at he'
      by_cases ej : j = σ4.n + 1
      · subst ej
        rw [push_dep hS]
        have q1 := r5 e' (a6 e' (by omega))
        have q2 := p3.2.2 e' he'
        show (1 : Int) + (if depD σ4.s ((RP : Int).toNat) > depD σ4.s ((RH : Int).toNat) then depD σ4.s ((RP : Int).toNat) else depD σ4.s ((RH : Int).toNat)) ≤ ((e' + 1 : Nat) : Int)
        rw [Int.toNat_natCast, Int.toNat_natCast, p2.dep (Nat.le_trans r3 d2.1), d2.dep r3]
        split <;> omega
      · have hj2 : f2 j ≠ none := fun hn => hj ((upd_other f2 (some 1) ej).trans hn)
        have q1 := d6 (e' + 1) (by rw [Nat.pow_succ]; omega) j hj2
        rw [x5.dep (show j ≤ σ4.n by have := hk2 j hj2; have := p2.1; omega), p2.dep (hk2 j hj2)]
        exact q1
end Go.Proofs.Ytmidpholmgmdpaa
