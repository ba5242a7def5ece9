/- The plain law of a plan: the polynomials of its registers, as rows of whole numbers. No program in sight. -/
import Derived.Test.YtmidpholmgmdpaaDp25
import Derived.Test.YtmidpholmgmdpaaMm25
namespace Go.Proofs.Ytmidpholmgmdpaa
open Go.RowKit
set_option linter.unusedVariables false

/-- the power of x -/
def dlt (k : Nat) : Nat → Int := fun q => if q = k then 1 else 0
/-- the product of two polynomials -/
def cnv (a b : Nat → Int) : Nat → Int := fun q => zsum (fun i => a i * b (q - i)) (q + 1)
theorem cnv_dlt (a : Nat → Int) (h q : Nat) : cnv a (dlt h) q = if q < h then 0 else a (q - h) := by
  unfold cnv dlt
  by_cases hq : q < h
  · rw [if_pos hq]
    exact zsum_zero _ fun i hi => by rw [if_neg (by omega), Int.mul_zero]
  · rw [if_neg hq, zsum_one (j := q - h) _ (by omega) fun i hi hne => by rw [if_neg (by omega), Int.mul_zero]]
    rw [if_pos (by omega), Int.mul_one]
theorem dlt_dlt (a b : Nat) : cnv (dlt a) (dlt b) = dlt (a + b) := funext fun q => by
  rw [cnv_dlt]
  unfold dlt
  by_cases h : q < b
  · rw [if_pos h, if_neg (by omega)]
  · rw [if_neg h]
    by_cases h2 : q = a + b
    · rw [if_pos (by omega), if_pos h2]
    · rw [if_neg (by omega), if_neg h2]
theorem cnv_deg {a b : Nat → Int} {A B : Nat} (ha : ∀ q, A < q → a q = 0) (hb : ∀ q, B < q → b q = 0) (q : Nat) (hq : A + B < q) : cnv a b q = 0 :=
  zsum_zero _ fun i hi => by
    rcases Nat.lt_or_ge A i with h | h
    · rw [ha i h, Int.zero_mul]
    · rw [hb (q - i) (by omega), Int.mul_zero]
/-- the polynomial of a step -/
def plS (f : Nat → Nat → Int) (S : PS) : Nat → Int := fun q => (if S.mul = true then cnv (f S.a.toNat) (f S.b.toNat) q else if q = 0 then S.first else 0) + zsum (fun k => S.cs k * f k q) S.n
def plR (s : Nat → PS) : Nat → Nat → Nat → Int
  | 0 => fun _ => dlt 1
  | i + 1 => fun j => if j = i + 1 then plS (plR s i) (s i) else plR s i j
/-- the polynomial of a register -/
def plD (s : Nat → PS) (j : Nat) : Nat → Int := plR s j j
theorem plR_D (s : Nat → PS) (i j : Nat) (h : j ≤ i) : plR s i j = plD s j := by
  induction i with
  | zero =>
    obtain rfl : j = 0 := by omega
    rfl
  | succ i ih =>
    by_cases hj : j = i + 1
    · subst hj; rfl
    · show (if j = i + 1 then plS (plR s i) (s i) else plR s i j) = _
      rw [if_neg hj, ih (by omega)]
theorem plS_congr {t i : Nat} {S : PS} {f g : Nat → Nat → Int} (h : stepOk t (i + 1) S) (hf : ∀ j, j ≤ i → f j = g j) : plS f S = plS g S := by
  obtain ⟨h1, h2⟩ := h.regs
  funext q
  unfold plS
  rw [zsum_congr (f := fun k => S.cs k * f k q) (g := fun k => S.cs k * g k q) S.n fun k hk => by rw [hf k (by omega)]]
  by_cases hm : S.mul = true
  · obtain ⟨ha, hb⟩ := h1 hm
    rw [hf _ ha, hf _ hb]
  · rw [if_neg hm, if_neg hm]
theorem plD_zero (s : Nat → PS) : plD s 0 = dlt 1 := rfl
theorem plD_succ {t i : Nat} {s : Nat → PS} (h : stepOk t (i + 1) (s i)) : plD s (i + 1) = plS (plD s) (s i) := by
  have h1 : plD s (i + 1) = plS (plR s i) (s i) := by
    show (if i + 1 = i + 1 then plS (plR s i) (s i) else plR s i (i + 1)) = _
    rw [if_pos rfl]
  rw [h1]
  exact plS_congr h fun j hj => plR_D s i j hj
/-- what a plan's first steps say does not hang on the others -/
theorem plR_ext {s s' : Nat → PS} (i : Nat) (h : ∀ k, k < i → s k = s' k) : plR s i = plR s' i := by
  induction i with
  | zero => rfl
  | succ i ih =>
    funext j
    show (if j = i + 1 then plS (plR s i) (s i) else plR s i j) = (if j = i + 1 then plS (plR s' i) (s' i) else plR s' i j)
    rw [ih fun k hk => h k (by omega), h i (by omega)]
theorem plD_ext {s s' : Nat → PS} {n : Nat} (h : ∀ k, k < n → s k = s' k) (j : Nat) (hj : j ≤ n) : plD s j = plD s' j := by
  unfold plD
  rw [plR_ext j fun k hk => h k (by omega)]
theorem depR_ext {s s' : Nat → PS} (i : Nat) (h : ∀ k, k < i → s k = s' k) : depR s i = depR s' i := by
  induction i with
  | zero => rfl
  | succ i ih =>
    funext j
    show (if j = i + 1 then dst (depR s i) (s i) else depR s i j) = (if j = i + 1 then dst (depR s' i) (s' i) else depR s' i j)
    rw [ih fun k hk => h k (by omega), h i (by omega)]
theorem depD_ext {s s' : Nat → PS} {n : Nat} (h : ∀ k, k < n → s k = s' k) (j : Nat) (hj : j ≤ n) : depD s j = depD s' j := by
  unfold depD
  rw [depR_ext j fun k hk => h k (by omega)]
/-- later states hold what earlier ones held -/
def Ex (σ σ' : MSt) : Prop := σ.n ≤ σ'.n ∧ ∀ i, i < σ.n → σ.s i = σ'.s i
theorem Ex.refl (σ : MSt) : Ex σ σ := ⟨Nat.le_refl _, fun _ _ => rfl⟩
theorem Ex.trans {a b c : MSt} (h : Ex a b) (k : Ex b c) : Ex a c := ⟨Nat.le_trans h.1 k.1, fun i hi => (h.2 i hi).trans (k.2 i (Nat.lt_of_lt_of_le hi h.1))⟩
theorem Ex.push (σ : MSt) (S : PS) : Ex σ (σ.push S) := ⟨Nat.le_succ _, fun i hi => (if_neg (by omega)).symm⟩
theorem Ex.pl {a b : MSt} (h : Ex a b) {j : Nat} (hj : j ≤ a.n) : plD b.s j = plD a.s j := (plD_ext h.2 j hj).symm
theorem Ex.dep {a b : MSt} (h : Ex a b) {j : Nat} (hj : j ≤ a.n) : depD b.s j = depD a.s j := (depD_ext h.2 j hj).symm
theorem push_ok {t : Nat} {σ : MSt} {S : PS} (h : PlnOk t σ.n σ.s) (hS : stepOk t (σ.n + 1) S) : PlnOk t (σ.push S).n (σ.push S).s := fun i hi => by
  have hi2 : i < σ.n + 1 := hi
  by_cases e : i = σ.n
  · subst e
    show stepOk t (σ.n + 1) (if σ.n = σ.n then S else σ.s σ.n)
    rw [if_pos rfl]
    exact hS
  · show stepOk t (i + 1) (if i = σ.n then S else σ.s i)
    rw [if_neg e]
    exact h i (by omega)
theorem push_pl {t : Nat} {σ : MSt} {S : PS} (hS : stepOk t (σ.n + 1) S) : plD (σ.push S).s (σ.n + 1) = plS (plD σ.s) S := by
  have e : (σ.push S).s σ.n = S := if_pos rfl
  rw [plD_succ (t := t) (by rw [e]; exact hS), e]
  exact plS_congr hS fun j hj => (Ex.push σ S).pl hj
theorem push_dep {t : Nat} {σ : MSt} {S : PS} (hS : stepOk t (σ.n + 1) S) : depD (σ.push S).s (σ.n + 1) = dst (depD σ.s) S := by
  have e : (σ.push S).s σ.n = S := if_pos rfl
  rw [depD_succ (t := t) (by rw [e]; exact hS), e]
  exact dst_congr hS fun j hj => (Ex.push σ S).dep hj
/-- the degree of a register is at most two to its depth -/
theorem mxs_ge (f cs : Nat → Int) (d : Int) (n : Nat) : d ≤ mxs f cs d n ∧ ∀ k, k < n → cs k ≠ 0 → f k ≤ mxs f cs d n := by
  induction n with
  | zero => exact ⟨Int.le_refl _, fun k hk => by omega⟩
  | succ n ih =>
    obtain ⟨h1, h2⟩ := ih
    unfold mxs
    by_cases hc : cs n = 0
    · rw [if_pos hc]
      refine ⟨h1, fun k hk hk0 => ?_⟩
      rcases Nat.lt_or_eq_of_le (Nat.le_of_lt_succ hk) with h | h
      · exact h2 k h hk0
      · rw [h] at hk0; exact absurd hc hk0
    · rw [if_neg hc]
      split
      · refine ⟨by omega, fun k hk hk0 => ?_⟩
        rcases Nat.lt_or_eq_of_le (Nat.le_of_lt_succ hk) with h | h
        · have := h2 k h hk0; omega
        · rw [h]; omega
      · refine ⟨h1, fun k hk hk0 => ?_⟩
        rcases Nat.lt_or_eq_of_le (Nat.le_of_lt_succ hk) with h | h
        · exact h2 k h hk0
        · rw [h]; omega
theorem plD_deg {t n : Nat} {s : Nat → PS} (h : PlnOk t n s) (j : Nat) (hj : j ≤ n) : ∀ q, 2 ^ (depD s j).toNat < q → plD s j q = 0 := by
  induction j using Nat.strongRecOn with
  | _ j ih =>
    rcases j with _ | j
    · intro q hq
      have hq2 : 1 < q := hq
      rw [plD_zero]
      unfold dlt
      exact if_neg (by omega)
    · intro q hq
      have hs := h j (by omega)
      obtain ⟨r1, r2⟩ := hs.regs
      rw [plD_succ hs]
      rw [depD_succ hs] at hq
      unfold dst at hq
      obtain ⟨g1, g2⟩ := mxs_ge (depD s) (s j).cs (if (s j).mul = true then 1 + (if depD s (s j).b.toNat > depD s (s j).a.toNat then depD s (s j).b.toNat else depD s (s j).a.toNat) else 0) (s j).n
      obtain ⟨M, hM⟩ : ∃ M, mxs (depD s) (s j).cs (if (s j).mul = true then 1 + (if depD s (s j).b.toNat > depD s (s j).a.toNat then depD s (s j).b.toNat else depD s (s j).a.toNat) else 0) (s j).n = M := ⟨_, rfl⟩
      rw [hM] at g1 g2 hq
      unfold plS
      have e2 : zsum (fun k => (s j).cs k * plD s k q) (s j).n = 0 := zsum_zero _ fun k hk => by
        by_cases hc : (s j).cs k = 0
        · rw [hc, Int.zero_mul]
        · have b := g2 k hk hc
          have := Nat.pow_le_pow_right (show 0 < 2 by omega) (show (depD s k).toNat ≤ M.toNat by omega)
          rw [ih k (by omega) (by omega) q (by omega), Int.mul_zero]
      rw [e2, Int.add_zero]
      by_cases hm : (s j).mul = true
      · rw [if_pos hm] at g1 ⊢
        obtain ⟨ra, rb⟩ := r1 hm
        obtain ⟨a, ha⟩ : ∃ a, (s j).a.toNat = a := ⟨_, rfl⟩
        obtain ⟨b, hb⟩ : ∃ b, (s j).b.toNat = b := ⟨_, rfl⟩
        rw [ha, hb] at g1 ⊢
        rw [ha] at ra
        rw [hb] at rb
        have da := depD_bound h a (by omega)
        have db := depD_bound h b (by omega)
        have hab : depD s a ≤ M - 1 ∧ depD s b ≤ M - 1 := by
          split at g1 <;> omega
        obtain ⟨m, hm2⟩ : ∃ m : Nat, M.toNat = m + 1 := ⟨M.toNat - 1, by omega⟩
        rw [hm2, Nat.pow_succ] at hq
        have p1 := Nat.pow_le_pow_right (show 0 < 2 by omega) (show (depD s a).toNat ≤ m by omega)
        have p2 := Nat.pow_le_pow_right (show 0 < 2 by omega) (show (depD s b).toNat ≤ m by omega)
        exact cnv_deg (ih a (by omega) (by omega)) (ih b (by omega) (by omega)) q (by omega)
      · rw [if_neg hm, if_neg (by have := Nat.one_le_two_pow (n := M.toNat); omega)]
end Go.Proofs.Ytmidpholmgmdpaa
