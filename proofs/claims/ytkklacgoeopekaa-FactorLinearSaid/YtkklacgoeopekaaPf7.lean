/- The plain law of factor.Factors, part 1: lists as polynomials, their values at a root. No program in sight. -/
import Derived.Test.YtkklacgoeopekaaCh7
import Derived.Test.YtkklacgoeopekaaNewton
namespace Go.Proofs.Ytkklacgoeopekaa
open Go.RowKit
set_option linter.unusedVariables false

/-- a list of residues without zeros at its end -/
def LR (p : Nat) (l : List Nat) : Prop := Res p (l.length, litF l)
/-- its value -/
def LV (p : Nat) (l : List Nat) (z : Nat) : Nat := valF p l.length (litF l) z
theorem toL_pair {p : Nat} {P : Nat × (Nat → Nat)} (h : Res p P) : (toL P.1 P.2).length = P.1 ∧ litF (toL P.1 P.2) = P.2 := ⟨toL_len _ _, litF_toL h.2.1⟩
theorem LR.of {p : Nat} {P : Nat × (Nat → Nat)} (h : Res p P) : LR p (toL P.1 P.2) := by
  unfold LR
  rw [(toL_pair h).1, (toL_pair h).2]
  exact h
theorem LV.of {p : Nat} {P : Nat × (Nat → Nat)} (h : Res p P) (z : Nat) : LV p (toL P.1 P.2) z = valF p P.1 P.2 z := by
  unfold LV
  rw [(toL_pair h).1, (toL_pair h).2]
theorem LR.last {p : Nat} {l : List Nat} (h : LR p l) (hn : 0 < l.length) : litF l (l.length - 1) ≠ 0 := by
  have h4 := tl_last (litF l) l.length (by rw [show tl (litF l) l.length = l.length from h.2.2]; exact hn)
  rw [show tl (litF l) l.length = l.length from h.2.2] at h4
  exact h4
theorem LR.chk {p : Nat} {l : List Nat} (h : LR p l) (hp : 2 ≤ p) (hp2 : p ≤ 2147483647) (hn : l.length ≤ 256) : chk p l.length (litF l) = 0 :=
  chk_ok hp hp2 hn (fun j _ => h.1 j) h.last
theorem chk2_of {m n nb : Nat} {a b : Nat → Nat} (ha : chk m n a = 0) (hb : chk m nb b = 0) : chk2 m n a nb b = 0 := by
  unfold chk2
  rw [if_pos ha, hb]
section
variable {p : Nat}
theorem rest_val {nb iv : Nat} {b : Nat → Nat} {P : Nat × (Nat → Nat)} (h : Res p P) (hm : 0 < p) (hnb : 0 < nb) (hiv : iv * b (nb - 1) % p = 1 % p) (hb : ∀ j, nb ≤ j → b j = 0) {z : Nat} (hz : valF p nb b z = 0) : valF p (restP p nb b iv P).1 (restP p nb b iv P).2 z = valF p P.1 P.2 z := by
  obtain ⟨r1, r2, r3⟩ := res_rest h hm hnb hiv hb
  have e1 : valF p (restP p nb b iv P).1 (restP p nb b iv P).2 z = valF p (P.1 + nb) (restP p nb b iv P).2 z := val_len r1.2.1 fun j hj => r1.2.1 j (by omega)
  have e2 : valF p P.1 P.2 z = valF p (P.1 + nb) P.2 z := val_len h.2.1 fun j hj => h.2.1 j (by omega)
  rw [e1, e2]
  exact val_dR hb hz _ _ (by unfold dL; omega)
theorem prod_val {P Q : Nat × (Nat → Nat)} (hP : Res p P) (hQ : Res p Q) (hm : 0 < p) (z : Nat) : valF p (prodP p P Q).1 (prodP p P Q).2 z = valF p P.1 P.2 z * valF p Q.1 Q.2 z % p := by
  obtain ⟨r1, r2⟩ := res_prod hP hQ hm
  have e1 : valF p (prodP p P Q).1 (prodP p P Q).2 z = valF p (P.1 + Q.1) (prodP p P Q).2 z := val_len r1.2.1 fun j hj => r1.2.1 j (by omega)
  rw [e1]
  exact val_mul hP.2.1 hQ.2.1 (Nat.le_refl _)
/-- the value of a power -/
theorem pow_val {nb iv : Nat} {b : Nat → Nat} (hm : 2 ≤ p) (hnb : 0 < nb) (hiv : iv * b (nb - 1) % p = 1 % p) (hb : ∀ j, nb ≤ j → b j = 0) : ∀ (k N : Nat) (o x : Nat × (Nat → Nat)), N < 2 ^ k → Res p o → Res p x → o.1 < nb → x.1 < nb →
    Res p (powP p nb b iv k N o x) ∧ (powP p nb b iv k N o x).1 < nb ∧ ∀ z, valF p nb b z = 0 → valF p (powP p nb b iv k N o x).1 (powP p nb b iv k N o x).2 z = valF p o.1 o.2 z * valF p x.1 x.2 z ^ N % p := by
  have hm0 : 0 < p := by omega
  intro k
  induction k with
  | zero =>
    intro N o x hN ho hx h1 h2
    have h0 : N = 0 := by omega
    subst h0
    rw [powP_zero]
    exact ⟨ho, h1, fun z _ => by rw [Nat.pow_zero, Nat.mul_one]; exact (Nat.mod_eq_of_lt (valF_lt hm0 _ _ _)).symm⟩
  | succ k ih =>
    intro N o x hN ho hx h1 h2
    rw [powP_succ]
    by_cases h0 : N = 0
    · subst h0
      rw [if_pos rfl]
      exact ⟨ho, h1, fun z _ => by rw [Nat.pow_zero, Nat.mul_one]; exact (Nat.mod_eq_of_lt (valF_lt hm0 _ _ _)).symm⟩
    rw [if_neg h0]
    obtain ⟨q1, _⟩ := res_prod hx hx hm0
    obtain ⟨s1, s2, _⟩ := res_rest q1 hm0 hnb hiv hb
    have hN2 : N / 2 < 2 ^ k := by rw [Nat.pow_succ] at hN; omega
    have hsq : ∀ z, valF p nb b z = 0 → valF p (restP p nb b iv (prodP p x x)).1 (restP p nb b iv (prodP p x x)).2 z = valF p x.1 x.2 z * valF p x.1 x.2 z % p := fun z hz => by
      rw [rest_val q1 hm0 hnb hiv hb hz, prod_val hx hx hm0]
    by_cases hodd : N % 2 = 1
    · rw [if_pos hodd]
      obtain ⟨q2, _⟩ := res_prod ho hx hm0
      obtain ⟨t1, t2, _⟩ := res_rest q2 hm0 hnb hiv hb
      obtain ⟨i1, i2, i3⟩ := ih (N / 2) _ _ hN2 t1 s1 t2 s2
      refine ⟨i1, i2, fun z hz => ?_⟩
      rw [i3 z hz, hsq z hz, rest_val q2 hm0 hnb hiv hb hz, prod_val ho hx hm0]
      obtain ⟨u, hu⟩ : ∃ u, valF p o.1 o.2 z = u := ⟨_, rfl⟩
      obtain ⟨v, hv⟩ : ∃ v, valF p x.1 x.2 z = v := ⟨_, rfl⟩
      rw [hu, hv, Nat.mul_mod, Nat.mod_mod, ← Nat.pow_mod, ← Nat.mul_mod, Nat.mul_assoc]
      congr 1
      congr 1
      rw [← Nat.pow_two, ← Nat.pow_mul, ← Nat.pow_succ']
      congr 1
      omega
    · rw [if_neg hodd]
      obtain ⟨i1, i2, i3⟩ := ih (N / 2) _ _ hN2 ho s1 h1 s2
      refine ⟨i1, i2, fun z hz => ?_⟩
      rw [i3 z hz, hsq z hz]
      obtain ⟨u, hu⟩ : ∃ u, valF p o.1 o.2 z = u := ⟨_, rfl⟩
      obtain ⟨v, hv⟩ : ∃ v, valF p x.1 x.2 z = v := ⟨_, rfl⟩
      rw [hu, hv, Nat.mul_mod, ← Nat.pow_mod, ← Nat.mul_mod]
      congr 1
      congr 1
      rw [← Nat.pow_two, ← Nat.pow_mul]
      congr 1
      omega
/-- the rest of a division of lists -/
theorem dmR_law {a f : List Nat} (hp : Mr.Pr p) (hp2 : p ≤ 2147483647) (ha : LR p a) (hf : LR p f) (hf0 : 0 < f.length) (hn : a.length ≤ 256) (hnb : f.length ≤ 256) :
    LR p (dmR p a f) ∧ (dmR p a f).length < f.length ∧ (dmR p a f).length ≤ a.length ∧ ∀ z, LV p f z = 0 → LV p (dmR p a f) z = LV p a z := by
  obtain ⟨iv, hu, hi1, hi2⟩ := unit_prime hp hf hf0
  have hE : dvE p a.length (litF a) f.length (litF f) = 0 := by
    unfold dvE
    rw [chk2_of (ha.chk hp.1 hp2 hn) (hf.chk hp.1 hp2 hnb), if_pos rfl, hu]
    rfl
  have e : dmR p a f = toL (restP p f.length (litF f) iv (a.length, litF a)).1 (restP p f.length (litF f) iv (a.length, litF a)).2 := by
    unfold dmR dvR
    rw [if_pos hE, hu]
    rfl
  obtain ⟨r1, r2, r3⟩ := res_rest (p := (a.length, litF a)) ha hp.pos hf0 hi2 hf.2.1
  rw [e]
  refine ⟨LR.of r1, by rw [toL_len]; exact r2, by rw [toL_len]; exact r3, fun z hz => ?_⟩
  rw [LV.of r1]
  exact rest_val (P := (a.length, litF a)) ha hp.pos hf0 hi2 hf.2.1 hz
theorem mlL_law {a b : List Nat} (hp : Mr.Pr p) (hp2 : p ≤ 2147483647) (ha : LR p a) (hb : LR p b) (hn : a.length + b.length ≤ 200) :
    LR p (mlL p a b) ∧ (mlL p a b).length ≤ a.length + b.length ∧ ∀ z, LV p (mlL p a b) z = LV p a z * LV p b z % p := by
  have hE : mlE p a.length (litF a) b.length (litF b) = 0 := by
    unfold mlE
    rw [chk2_of (ha.chk hp.1 hp2 (by omega)) (hb.chk hp.1 hp2 (by omega)), if_pos rfl, if_neg (by omega)]
  have e : mlL p a b = toL (prodP p (a.length, litF a) (b.length, litF b)).1 (prodP p (a.length, litF a) (b.length, litF b)).2 := by
    unfold mlL mlF
    rw [if_pos hE]
    rfl
  obtain ⟨r1, r2⟩ := res_prod (p := (a.length, litF a)) (q := (b.length, litF b)) ha hb hp.pos
  rw [e]
  exact ⟨LR.of r1, by rw [toL_len]; exact r2, fun z => by rw [LV.of r1]; exact prod_val (P := (a.length, litF a)) (Q := (b.length, litF b)) ha hb hp.pos z⟩
theorem pwL_law {a f : List Nat} {N : Nat} (hp : Mr.Pr p) (hp2 : p ≤ 2147483647) (ha : LR p a) (hf : LR p f) (hf0 : 0 < f.length) (hn : a.length ≤ 256) (hnb : f.length ≤ 256) (hN : N < 2 ^ 64) :
    LR p (pwL p a N f) ∧ (pwL p a N f).length < f.length ∧ ∀ z, LV p f z = 0 → LV p (pwL p a N f) z = LV p a z ^ N % p := by
  obtain ⟨iv, hu, hi1, hi2⟩ := unit_prime hp hf hf0
  have hE : dvE p a.length (litF a) f.length (litF f) = 0 := by
    unfold dvE
    rw [chk2_of (ha.chk hp.1 hp2 hn) (hf.chk hp.1 hp2 hnb), if_pos rfl, hu]
    rfl
  obtain ⟨P, hP⟩ : ∃ P, powP p f.length (litF f) iv 64 N (restP p f.length (litF f) iv (1, oneF 1)) (restP p f.length (litF f) iv (a.length, litF a)) = P := ⟨_, rfl⟩
  have e : pwL p a N f = toL P.1 P.2 := by
    unfold pwL pwP
    rw [if_pos hE, hu]
    show toL (powP p f.length (litF f) iv 64 N _ _).1 (powP p f.length (litF f) iv 64 N _ _).2 = _
    rw [hP]
  have hone := res_one hp.1
  obtain ⟨o1, o2, _⟩ := res_rest hone hp.pos hf0 hi2 hf.2.1
  obtain ⟨x1, x2, _⟩ := res_rest (p := (a.length, litF a)) ha hp.pos hf0 hi2 hf.2.1
  obtain ⟨r1, r2, r3⟩ := pow_val hp.1 hf0 hi2 hf.2.1 64 N _ _ hN o1 x1 o2 x2
  rw [hP] at r1 r2 r3
  rw [e]
  refine ⟨LR.of r1, by rw [toL_len]; exact r2, fun z hz => ?_⟩
  rw [LV.of r1, r3 z hz, rest_val hone hp.pos hf0 hi2 hf.2.1 hz, rest_val (P := (a.length, litF a)) ha hp.pos hf0 hi2 hf.2.1 hz]
  rw [show valF p 1 (oneF 1) z = 1 from val_one hp.1, Nat.one_mul]
  rfl
end
end Go.Proofs.Ytkklacgoeopekaa
