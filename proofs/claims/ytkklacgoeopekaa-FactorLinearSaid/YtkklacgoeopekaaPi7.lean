/- The plain law of factor.Factors, part 1: lists as polynomials, their values at a root. No program in sight. -/
/- The plain law of factor.Factors, part 2: differences, greatest common divisors, quotients. No program in sight. -/
/- The plain law of factor.Factors, part 3: a product of distinct linear polynomials, and how a divisor splits it. No program in sight. -/
/- The plain law of factor.Factors, part 4: some candidate parts any two roots; the tree of the splittings. No program in sight. -/
import Derived.Test.YtkklacgoeopekaaCh7
import Derived.Test.YtkklacgoeopekaaNewton
import Derived.Test.YtkklacgoeopekaaSp7
namespace Go.Proofs.Ytkklacgoeopekaa
open Go.RowKit
set_option linter.unusedVariables false

/-- a list of residues without zeros at its end -/
def LR (p : Nat) (l : List Nat) : Prop := Res p (l.length, litF l)
/-- its value -/
def LV (p : Nat) (l : List Nat) (z : Nat) : Nat := valF p l.length (litF l) z
theorem toL_pair {p : Nat} {P : Nat × (Nat → Nat)} (h : Res p P) : (toL P.1 P.2).length = P.1 ∧ litF (toL P.1 P.2) = P.2 := ⟨toL_len _ _, litF_toL h.2.1⟩
theorem LR.of {p : Nat} {P : Nat × (Nat → Nat)} (h : Res p P) : LR p (toL P.1 P.2) := by
  unfold LR
  rw [(toL_pair h).1, (toL_pair h).2]
  exact h
theorem LV.of {p : Nat} {P : Nat × (Nat → Nat)} (h : Res p P) (z : Nat) : LV p (toL P.1 P.2) z = valF p P.1 P.2 z := by
  unfold LV
  rw [(toL_pair h).1, (toL_pair h).2]
theorem LR.last {p : Nat} {l : List Nat} (h : LR p l) (hn : 0 < l.length) : litF l (l.length - 1) ≠ 0 := by
  have h4 := tl_last (litF l) l.length (by rw [show tl (litF l) l.length = l.length from h.2.2]; exact hn)
  rw [show tl (litF l) l.length = l.length from h.2.2] at h4
  exact h4
theorem LR.chk {p : Nat} {l : List Nat} (h : LR p l) (hp : 2 ≤ p) (hp2 : p ≤ 2147483647) (hn : l.length ≤ 256) : chk p l.length (litF l) = 0 :=
  chk_ok hp hp2 hn (fun j _ => h.1 j) h.last
theorem chk2_of {m n nb : Nat} {a b : Nat → Nat} (ha : chk m n a = 0) (hb : chk m nb b = 0) : chk2 m n a nb b = 0 := by
  unfold chk2
  rw [if_pos ha, hb]
section
variable {p : Nat}
theorem rest_val {nb iv : Nat} {b : Nat → Nat} {P : Nat × (Nat → Nat)} (h : Res p P) (hm : 0 < p) (hnb : 0 < nb) (hiv : iv * b (nb - 1) % p = 1 % p) (hb : ∀ j, nb ≤ j → b j = 0) {z : Nat} (hz : valF p nb b z = 0) : valF p (restP p nb b iv P).1 (restP p nb b iv P).2 z = valF p P.1 P.2 z := by
  obtain ⟨r1, r2, r3⟩ := res_rest h hm hnb hiv hb
  have e1 : valF p (restP p nb b iv P).1 (restP p nb b iv P).2 z = valF p (P.1 + nb) (restP p nb b iv P).2 z := val_len r1.2.1 fun j hj => r1.2.1 j (by omega)
  have e2 : valF p P.1 P.2 z = valF p (P.1 + nb) P.2 z := val_len h.2.1 fun j hj => h.2.1 j (by omega)
  rw [e1, e2]
  exact val_dR hb hz _ _ (by unfold dL; omega)
theorem prod_val {P Q : Nat × (Nat → Nat)} (hP : Res p P) (hQ : Res p Q) (hm : 0 < p) (z : Nat) : valF p (prodP p P Q).1 (prodP p P Q).2 z = valF p P.1 P.2 z * valF p Q.1 Q.2 z % p := by
  obtain ⟨r1, r2⟩ := res_prod hP hQ hm
  have e1 : valF p (prodP p P Q).1 (prodP p P Q).2 z = valF p (P.1 + Q.1) (prodP p P Q).2 z := val_len r1.2.1 fun j hj => r1.2.1 j (by omega)
  rw [e1]
  exact val_mul hP.2.1 hQ.2.1 (Nat.le_refl _)
/-- the value of a power -/
theorem pow_val {nb iv : Nat} {b : Nat → Nat} (hm : 2 ≤ p) (hnb : 0 < nb) (hiv : iv * b (nb - 1) % p = 1 % p) (hb : ∀ j, nb ≤ j → b j = 0) : ∀ (k N : Nat) (o x : Nat × (Nat → Nat)), N < 2 ^ k → Res p o → Res p x → o.1 < nb → x.1 < nb →
    Res p (powP p nb b iv k N o x) ∧ (powP p nb b iv k N o x).1 < nb ∧ ∀ z, valF p nb b z = 0 → valF p (powP p nb b iv k N o x).1 (powP p nb b iv k N o x).2 z = valF p o.1 o.2 z * valF p x.1 x.2 z ^ N % p := by
  have hm0 : 0 < p := by omega
  intro k
  induction k with
  | zero =>
    intro N o x hN ho hx h1 h2
    have h0 : N = 0 := by omega
    subst h0
    rw [powP_zero]
    exact ⟨ho, h1, fun z _ => by rw [Nat.pow_zero, Nat.mul_one]; exact (Nat.mod_eq_of_lt (valF_lt hm0 _ _ _)).symm⟩
  | succ k ih =>
    intro N o x hN ho hx h1 h2
    rw [powP_succ]
    by_cases h0 : N = 0
    · subst h0
      rw [if_pos rfl]
      exact ⟨ho, h1, fun z _ => by rw [Nat.pow_zero, Nat.mul_one]; exact (Nat.mod_eq_of_lt (valF_lt hm0 _ _ _)).symm⟩
    rw [if_neg h0]
    obtain ⟨q1, _⟩ := res_prod hx hx hm0
    obtain ⟨s1, s2, _⟩ := res_rest q1 hm0 hnb hiv hb
    have hN2 : N / 2 < 2 ^ k := by rw [Nat.pow_succ] at hN; omega
    have hsq : ∀ z, valF p nb b z = 0 → valF p (restP p nb b iv (prodP p x x)).1 (restP p nb b iv (prodP p x x)).2 z = valF p x.1 x.2 z * valF p x.1 x.2 z % p := fun z hz => by
      rw [rest_val q1 hm0 hnb hiv hb hz, prod_val hx hx hm0]
    by_cases hodd : N % 2 = 1
    · rw [if_pos hodd]
      obtain ⟨q2, _⟩ := res_prod ho hx hm0
      obtain ⟨t1, t2, _⟩ := res_rest q2 hm0 hnb hiv hb
      obtain ⟨i1, i2, i3⟩ := ih (N / 2) _ _ hN2 t1 s1 t2 s2
      refine ⟨i1, i2, fun z hz => ?_⟩
      rw [i3 z hz, hsq z hz, rest_val q2 hm0 hnb hiv hb hz, prod_val ho hx hm0]
      obtain ⟨u, hu⟩ : ∃ u, valF p o.1 o.2 z = u := ⟨_, rfl⟩
      obtain ⟨v, hv⟩ : ∃ v, valF p x.1 x.2 z = v := ⟨_, rfl⟩
      rw [hu, hv, Nat.mul_mod, Nat.mod_mod, ← Nat.pow_mod, ← Nat.mul_mod, Nat.mul_assoc]
      congr 1
      congr 1
      rw [← Nat.pow_two, ← Nat.pow_mul, ← Nat.pow_succ']
      congr 1
      omega
    · rw [if_neg hodd]
      obtain ⟨i1, i2, i3⟩ := ih (N / 2) _ _ hN2 ho s1 h1 s2
      refine ⟨i1, i2, fun z hz => ?_⟩
      rw [i3 z hz, hsq z hz]
      obtain ⟨u, hu⟩ : ∃ u, valF p o.1 o.2 z = u := ⟨_, rfl⟩
      obtain ⟨v, hv⟩ : ∃ v, valF p x.1 x.2 z = v := ⟨_, rfl⟩
      rw [hu, hv, Nat.mul_mod, ← Nat.pow_mod, ← Nat.mul_mod]
      congr 1
      congr 1
      rw [← Nat.pow_two, ← Nat.pow_mul]
      congr 1
      omega
/-- the rest of a division of lists -/
theorem dmR_law {a f : List Nat} (hp : Mr.Pr p) (hp2 : p ≤ 2147483647) (ha : LR p a) (hf : LR p f) (hf0 : 0 < f.length) (hn : a.length ≤ 256) (hnb : f.length ≤ 256) :
    LR p (dmR p a f) ∧ (dmR p a f).length < f.length ∧ (dmR p a f).length ≤ a.length ∧ ∀ z, LV p f z = 0 → LV p (dmR p a f) z = LV p a z := by
  obtain ⟨iv, hu, hi1, hi2⟩ := unit_prime hp hf hf0
  have hE : dvE p a.length (litF a) f.length (litF f) = 0 := by
    unfold dvE
    rw [chk2_of (ha.chk hp.1 hp2 hn) (hf.chk hp.1 hp2 hnb), if_pos rfl, hu]
    rfl
  have e : dmR p a f = toL (restP p f.length (litF f) iv (a.length, litF a)).1 (restP p f.length (litF f) iv (a.length, litF a)).2 := by
    unfold dmR dvR
    rw [if_pos hE, hu]
    rfl
  obtain ⟨r1, r2, r3⟩ := res_rest (p := (a.length, litF a)) ha hp.pos hf0 hi2 hf.2.1
  rw [e]
  refine ⟨LR.of r1, by rw [toL_len]; exact r2, by rw [toL_len]; exact r3, fun z hz => ?_⟩
  rw [LV.of r1]
  exact rest_val (P := (a.length, litF a)) ha hp.pos hf0 hi2 hf.2.1 hz
theorem mlL_law {a b : List Nat} (hp : Mr.Pr p) (hp2 : p ≤ 2147483647) (ha : LR p a) (hb : LR p b) (hn : a.length + b.length ≤ 200) :
    LR p (mlL p a b) ∧ (mlL p a b).length ≤ a.length + b.length ∧ ∀ z, LV p (mlL p a b) z = LV p a z * LV p b z % p := by
  have hE : mlE p a.length (litF a) b.length (litF b) = 0 := by
    unfold mlE
    rw [chk2_of (ha.chk hp.1 hp2 (by omega)) (hb.chk hp.1 hp2 (by omega)), if_pos rfl, if_neg (by omega)]
  have e : mlL p a b = toL (prodP p (a.length, litF a) (b.length, litF b)).1 (prodP p (a.length, litF a) (b.length, litF b)).2 := by
    unfold mlL mlF
    rw [if_pos hE]
    rfl
  obtain ⟨r1, r2⟩ := res_prod (p := (a.length, litF a)) (q := (b.length, litF b)) ha hb hp.pos
  rw [e]
  exact ⟨LR.of r1, by rw [toL_len]; exact r2, fun z => by rw [LV.of r1]; exact prod_val (P := (a.length, litF a)) (Q := (b.length, litF b)) ha hb hp.pos z⟩
theorem pwL_law {a f : List Nat} {N : Nat} (hp : Mr.Pr p) (hp2 : p ≤ 2147483647) (ha : LR p a) (hf : LR p f) (hf0 : 0 < f.length) (hn : a.length ≤ 256) (hnb : f.length ≤ 256) (hN : N < 2 ^ 64) :
    LR p (pwL p a N f) ∧ (pwL p a N f).length < f.length ∧ ∀ z, LV p f z = 0 → LV p (pwL p a N f) z = LV p a z ^ N % p := by
  obtain ⟨iv, hu, hi1, hi2⟩ := unit_prime hp hf hf0
  have hE : dvE p a.length (litF a) f.length (litF f) = 0 := by
    unfold dvE
    rw [chk2_of (ha.chk hp.1 hp2 hn) (hf.chk hp.1 hp2 hnb), if_pos rfl, hu]
    rfl
  obtain ⟨P, hP⟩ : ∃ P, powP p f.length (litF f) iv 64 N (restP p f.length (litF f) iv (1, oneF 1)) (restP p f.length (litF f) iv (a.length, litF a)) = P := ⟨_, rfl⟩
  have e : pwL p a N f = toL P.1 P.2 := by
    unfold pwL pwP
    rw [if_pos hE, hu]
    show toL (powP p f.length (litF f) iv 64 N _ _).1 (powP p f.length (litF f) iv 64 N _ _).2 = _
    rw [hP]
  have hone := res_one hp.1
  obtain ⟨o1, o2, _⟩ := res_rest hone hp.pos hf0 hi2 hf.2.1
  obtain ⟨x1, x2, _⟩ := res_rest (p := (a.length, litF a)) ha hp.pos hf0 hi2 hf.2.1
  obtain ⟨r1, r2, r3⟩ := pow_val hp.1 hf0 hi2 hf.2.1 64 N _ _ hN o1 x1 o2 x2
  rw [hP] at r1 r2 r3
  rw [e]
  refine ⟨LR.of r1, by rw [toL_len]; exact r2, fun z hz => ?_⟩
  rw [LV.of r1, r3 z hz, rest_val hone hp.pos hf0 hi2 hf.2.1 hz, rest_val (P := (a.length, litF a)) ha hp.pos hf0 hi2 hf.2.1 hz]
  rw [show valF p 1 (oneF 1) z = 1 from val_one hp.1, Nat.one_mul]
  rfl
end
end Go.Proofs.Ytkklacgoeopekaa

namespace Go.Proofs.Ytkklacgoeopekaa
open Go.RowKit
set_option linter.unusedVariables false

section
variable {p : Nat}
theorem litF_one : litF [1] = oneF 1 := funext fun j => by
  unfold litF oneF
  rcases j with _ | j
  · rfl
  · simp
theorem LR.one (hp : 2 ≤ p) : LR p [1] := by
  unfold LR
  rw [litF_one]
  exact res_one hp
theorem LV.one (hp : 2 ≤ p) (z : Nat) : LV p [1] z = 1 := by
  unfold LV
  rw [litF_one]
  exact val_one hp
theorem sub_add {a b : Nat → Nat} (ha : ∀ j, a j < p) (hb : ∀ j, b j < p) : addF p (subF p a b) b = a := funext fun j => by
  unfold addF subF
  have h1 := ha j
  have h2 := hb j
  rw [Nat.add_mod, Nat.mod_mod, ← Nat.add_mod, show a j + p - b j + b j = a j + p by omega, Nat.add_mod_right, Nat.mod_eq_of_lt h1]
theorem sbL_law {c : List Nat} (hp : Mr.Pr p) (hp2 : p ≤ 2147483647) (hc : LR p c) (hn : c.length ≤ 256) :
    LR p (sbL p c [1]) ∧ (sbL p c [1]).length ≤ max c.length 1 ∧ ∀ z, (LV p (sbL p c [1]) z + 1) % p = LV p c z := by
  have h1 := LR.one hp.1
  have hE : chk2 p c.length (litF c) ([1] : List Nat).length (litF [1]) = 0 := chk2_of (hc.chk hp.1 hp2 hn) (h1.chk hp.1 hp2 (by decide))
  have hz : ∀ j, max c.length 1 ≤ j → subF p (litF c) (litF [1]) j = 0 := fun j hj => by
    unfold subF
    rw [show litF c j = 0 from hc.2.1 j (show c.length ≤ j by omega), show litF [1] j = 0 from h1.2.1 j (show 1 ≤ j by omega), Nat.zero_add, Nat.sub_zero, Nat.mod_self]
  have hres : Res p (tl (subF p (litF c) (litF [1])) (max c.length 1), subF p (litF c) (litF [1])) := ⟨fun j => Nat.mod_lt _ hp.pos, fun j hj => by
    rcases Nat.lt_or_ge j (max c.length 1) with h | h
    · exact tl_zero _ _ j hj h
    · exact hz j h, tl_tl _ _⟩
  have e : sbL p c [1] = toL (tl (subF p (litF c) (litF [1])) (max c.length 1)) (subF p (litF c) (litF [1])) := by
    unfold sbL okF
    rw [hE, if_pos rfl]
    rfl
  rw [e]
  refine ⟨LR.of hres, by rw [toL_len]; exact tl_le _ _, fun z => ?_⟩
  rw [LV.of hres]
  have v1 : valF p (tl (subF p (litF c) (litF [1])) (max c.length 1)) (subF p (litF c) (litF [1])) z = valF p (max c.length 1) (subF p (litF c) (litF [1])) z := val_len hres.2.1 hz
  have v2 : LV p c z = valF p (max c.length 1) (litF c) z := val_len hc.2.1 fun j hj => hc.2.1 j (show c.length ≤ j by omega)
  have v3 : valF p (max c.length 1) (litF [1]) z = 1 :=
    (val_len (n := 1) (k := max c.length 1) h1.2.1 fun j hj => h1.2.1 j (show 1 ≤ j by omega)).symm.trans (LV.one hp.1 z)
  show (valF p (tl _ _) _ z + 1) % p = _
  rw [v1, v2]
  have h3 := val_add (m := p) (N := max c.length 1) (a := subF p (litF c) (litF [1])) (b := litF [1]) (x := z)
  rw [sub_add hc.1 h1.1, v3] at h3
  exact h3.symm
/-- a root of a divisor is one of the multiple -/
theorem Dv.val {d a : Nat → Nat} {nd na z : Nat} (h : Dv p d a) (hd : ∀ j, nd ≤ j → d j = 0) (ha : ∀ j, na ≤ j → a j = 0) (hz : valF p nd d z = 0) : valF p na a z = 0 := by
  obtain ⟨q, N, h1, h2⟩ := h
  have e1 : valF p na a z = valF p (max na (N + nd)) a z := val_len ha fun j hj => ha j (by omega)
  have e2 : valF p (max na (N + nd)) a z = valF p (max na (N + nd)) (mulF p q d) z := by
    rw [← val_modF (f := a)]
    congr 1
    funext j
    rw [h2 j]
    rfl
  rw [e1, e2, val_mul h1 hd (by omega), hz, Nat.mul_zero, Nat.zero_mod]
/-- at a root the linear polynomial divides -/
theorem lin_dv {a : Nat → Nat} {n z : Nat} (hp : Mr.Pr p) (ha : ∀ j, a j < p) (hn : ∀ j, n ≤ j → a j = 0) (hz : z < p) (hv : valF p n a z = 0) : Dv p (linF p z) a := by
  have hl := rs_lin (m := p) (x := z) hp.1
  have hroot : valF p 2 (linF p z) z = 0 := by rw [val_lin hz, dif_self hz]
  have h1 : (1 : Nat) * linF p z (2 - 1) % p = 1 % p := rfl
  have hlt : ∀ j, dR p 2 (linF p z) 1 (dL n 2) a j < p := dR_lt hp.pos _ _ ha
  have hhigh : ∀ j, 1 ≤ j → dR p 2 (linF p z) 1 (dL n 2) a j = 0 := dR_high hp.pos (by omega) h1 hl.2 _ a ha fun j hj => hn j (by unfold dL at hj; omega)
  have hval := val_dR (iv := 1) hl.2 hroot (dL n 2) a (N := n + 2) (by unfold dL; omega)
  rw [val_low hlt hhigh (by omega), val_more (n := n) hn (by omega), hv] at hval
  have hzero : ∀ j, dR p 2 (linF p z) 1 (dL n 2) a j = 0 := fun j => by
    rcases Nat.eq_zero_or_pos j with h | h
    · rw [h]; exact hval
    · exact hhigh j h
  exact Dv.back (iv := 1) (nb := 2) (i := dL n 2) hp.pos ((Dv.zero p (linF p z)).congr fun j => by rw [hzero j]) (Dv.refl p _)
theorem gcL_law {a b : List Nat} (hp : Mr.Pr p) (hp2 : p ≤ 2147483647) (ha : LR p a) (hb : LR p b) (hn : a.length ≤ 256) (hnb : b.length ≤ 256) :
    LR p (gcL p a b) ∧ (gcL p a b).length ≤ 256 ∧ (0 < (gcL p a b).length → litF (gcL p a b) ((gcL p a b).length - 1) = 1) ∧ Dv p (litF (gcL p a b)) (litF a) ∧ Dv p (litF (gcL p a b)) (litF b) ∧ ∀ c, Dv p c (litF a) → Dv p c (litF b) → Dv p c (litF (gcL p a b)) := by
  have hE : chk2 p a.length (litF a) b.length (litF b) = 0 := chk2_of (ha.chk hp.1 hp2 hn) (hb.chk hp.1 hp2 hnb)
  obtain ⟨k, d, hg, hk, hd1, hd2, hd3, hd4, hd5, hd6⟩ := gcdF_spec hp ha hb hn hnb
  have hres : Res p (k, d) := ⟨hd1, hd2, tl_unique (Nat.le_refl _) (fun j h1 h2 => by have h1' : k ≤ j := h1; have h2' : j < k := h2; omega) fun h => by
    show d (k - 1) ≠ 0
    rw [hd3 h]
    exact Nat.one_ne_zero⟩
  have e : gcL p a b = toL k d := by
    unfold gcL
    rw [if_pos hE, hg]
  have e2 := toL_pair hres
  simp only at e2
  rw [e, e2.1, e2.2]
  exact ⟨LR.of hres, hk, hd3, hd4, hd5, hd6⟩
theorem dQ_eq {nb iv : Nat} {b : Nat → Nat} (hm : 0 < p) : ∀ i (r : Nat → Nat) (j : Nat), r j % p = (dR p nb b iv i r j + conv (dQ p nb b iv i r) b j) % p
  | 0, r, j => by rw [dR, show dQ p nb b iv 0 r = fun _ => 0 from rfl, conv_zero_left, Nat.add_zero]
  | i + 1, r, j => by
    have ih := dQ_eq (nb := nb) (iv := iv) (b := b) hm i (dStep p nb b iv i r) j
    have hq : dQ p nb b iv (i + 1) r = fun t => monoF (dC p nb iv i r) i t + dQ p nb b iv i (dStep p nb b iv i r) t := funext fun t => by
      show (if t = i then dC p nb iv i r else dQ p nb b iv i (dStep p nb b iv i r) t) = _
      unfold monoF
      by_cases ht : t = i
      · rw [if_pos ht, if_pos ht, ht, dQ_out i _ i (Nat.le_refl _), Nat.add_zero]
      · rw [if_neg ht, if_neg ht, Nat.zero_add]
    rw [hq, conv_add, conv_monoF, dR, Nat.add_left_comm, Nat.add_mod, ← ih, ← Nat.add_mod]
    unfold dStep
    by_cases hij : i ≤ j
    · rw [if_pos hij, if_pos hij, Nat.add_mod, Nat.mod_mod, ← Nat.add_mod]
      have hc : dC p nb iv i r ≤ p := Nat.le_of_lt (Nat.mod_lt _ hm)
      rw [show dC p nb iv i r * b (j - i) + (r j + (p - dC p nb iv i r) * b (j - i)) = r j + p * b (j - i) from by
        rw [Nat.add_left_comm, ← Nat.add_mul, Nat.add_sub_cancel' hc], Nat.add_mul_mod_self_left]
    · rw [if_neg hij, if_neg hij, Nat.zero_add]
/-- the quotient of an exact division -/
theorem dmQ_law {f g : List Nat} (hp : Mr.Pr p) (hp2 : p ≤ 2147483647) (hf : LR p f) (hg : LR p g) (hg0 : 0 < g.length) (hn : f.length ≤ 256) (hnb : g.length ≤ 256) (hd : Dv p (litF g) (litF f)) :
    LR p (dmQ p f g) ∧ (dmQ p f g).length ≤ f.length + 1 ∧ ∀ j, litF f j = mulF p (litF (dmQ p f g)) (litF g) j := by
  obtain ⟨iv, hu, hi1, hi2⟩ := unit_prime hp hg hg0
  have hE : dvE p f.length (litF f) g.length (litF g) = 0 := by
    unfold dvE
    rw [chk2_of (hf.chk hp.1 hp2 hn) (hg.chk hp.1 hp2 hnb), if_pos rfl, hu]
    rfl
  obtain ⟨q, hq⟩ : ∃ q, dQ p g.length (litF g) iv (dL f.length g.length) (litF f) = q := ⟨_, rfl⟩
  have hqo : ∀ j, dL f.length g.length ≤ j → q j = 0 := fun j hj => by rw [← hq]; exact dQ_out _ _ j hj
  have hres : Res p (tl q (dL f.length g.length), q) := ⟨fun j => by rw [← hq]; exact dQ_lt hp.pos _ _ j, fun j hj => by
    rcases Nat.lt_or_ge j (dL f.length g.length) with h | h
    · exact tl_zero _ _ j hj h
    · exact hqo j h, tl_tl _ _⟩
  have e : dmQ p f g = toL (tl q (dL f.length g.length)) q := by
    unfold dmQ dvQ
    rw [if_pos hE, hu]
    show toL (tl (dQ p g.length (litF g) iv (dL f.length g.length) (litF f)) _) (dQ p g.length (litF g) iv (dL f.length g.length) (litF f)) = _
    rw [hq]
  have e2 := toL_pair hres
  simp only at e2
  rw [e]
  refine ⟨LR.of hres, by rw [toL_len]; exact Nat.le_trans (tl_le _ _) (by unfold dL; omega), fun j => ?_⟩
  rw [e2.2]
  have hrz : ∀ j, dR p g.length (litF g) iv (dL f.length g.length) (litF f) j % p = 0 := dv_small hg.2.1 hg0 hi2 (hd.rest (Dv.refl p _)) fun j hj => by
    rw [dR_high hp.pos hg0 hi2 hg.2.1 _ (litF f) hf.1 (fun j hj => hf.2.1 j (by show f.length ≤ j; unfold dL at hj; omega)) j hj, Nat.zero_mod]
  have h3 := dQ_eq (nb := g.length) (iv := iv) (b := litF g) hp.pos (dL f.length g.length) (litF f) j
  rw [hq, Nat.add_mod, hrz j, Nat.zero_add, Nat.mod_mod, Nat.mod_eq_of_lt (hf.1 j)] at h3
  exact h3
end
end Go.Proofs.Ytkklacgoeopekaa

namespace Go.Proofs.Ytkklacgoeopekaa
open Go.RowKit
set_option linter.unusedVariables false

/-- a monic list with as many different roots as its degree -/
structure LinP (p : Nat) (f : List Nat) (Z : List Nat) : Prop where
  lr : LR p f
  len : f.length = Z.length + 1
  one : litF f Z.length = 1
  nd : Z.Nodup
  lt : ∀ z, z ∈ Z → z < p
  rt : ∀ z, z ∈ Z → LV p f z = 0
section
variable {p : Nat}
theorem dif_ne {a b : Nat} (ha : a < p) (hb : b < p) (h : a ≠ b) : ¬ p ∣ dif p a b := fun hd => by
  have h1 := Nat.mod_eq_zero_of_dvd hd
  unfold dif at h1
  rw [Nat.mod_mod] at h1
  rcases Nat.lt_or_ge a b with h2 | h2
  · rw [Nat.mod_eq_of_lt (by omega)] at h1; omega
  · rw [show a + p - b = a - b + p by omega, Nat.add_mod_right, Nat.mod_eq_of_lt (by omega)] at h1; omega
theorem apart_of {Z : List Nat} (hp : Mr.Pr p) (hn : Z.Nodup) (hl : ∀ z, z ∈ Z → z < p) : Apart p Z.length fun i => Z.getD i 0 := fun i k hk hi => by
  have e1 : Z.getD i 0 = Z[i] := by rw [List.getD_eq_getElem?_getD, List.getElem?_eq_getElem hi]; rfl
  have e2 : Z.getD k 0 = Z[k] := by rw [List.getD_eq_getElem?_getD, List.getElem?_eq_getElem (by omega)]; rfl
  simp only [e1, e2]
  refine hp.coprime (dif_ne (hl _ (List.getElem_mem _)) (hl _ (List.getElem_mem _)) ?_)
  intro h
  have := (List.getElem_inj hn).1 h
  omega
/-- no more roots than the degree -/
theorem lin_count {f Z : List Nat} (hp : Mr.Pr p) (hf : LR p f) (h0 : 0 < f.length) (hn : Z.Nodup) (hl : ∀ z, z ∈ Z → z < p) (hr : ∀ z, z ∈ Z → LV p f z = 0) : Z.length + 1 ≤ f.length := by
  rcases Nat.lt_or_ge Z.length f.length with h | h
  · omega
  have hg : ∀ i, i < Z.length → Z.getD i 0 ∈ Z := fun i hi => by
    rw [List.getD_eq_getElem?_getD, List.getElem?_eq_getElem hi]
    exact List.getElem_mem _
  have h1 := roots_zero (m := p) (x := fun i => Z.getD i 0) hp.1 Z.length (litF f) (fun j hj => hl _ (hg j hj)) (apart_of hp hn hl) (fun j hj => hf.2.1 j (show f.length ≤ j by omega)) (fun i hi => by
    have h2 := hr _ (hg i hi)
    exact (val_len (fun j hj => hf.2.1 j (show f.length ≤ j by omega)) hf.2.1).trans h2) (f.length - 1)
  rw [Nat.mod_eq_of_lt (hf.1 _)] at h1
  exact absurd h1 (hf.last h0)
theorem mul_zero_or {a b : Nat} (hp : Mr.Pr p) (ha : a < p) (hb : b < p) (h : a * b % p = 0) : a = 0 ∨ b = 0 := by
  rcases hp.dvd_mul (Nat.dvd_of_mod_eq_zero h) with h1 | h1
  · exact .inl (Nat.eq_zero_of_dvd_of_lt h1 ha)
  · exact .inr (Nat.eq_zero_of_dvd_of_lt h1 hb)
theorem LV.lt {l : List Nat} (hp : 0 < p) (z : Nat) : LV p l z < p := valF_lt hp _ _ _
theorem filt_len {Z : List Nat} (q : Nat → Bool) : (Z.filter q).length + (Z.filter fun z => !q z).length = Z.length := by
  induction Z with
  | nil => rfl
  | cons a Z ih =>
    rw [List.filter_cons, List.filter_cons]
    by_cases h : q a = true
    · rw [if_pos h, if_neg (by simp [h])]; simp only [List.length_cons]; omega
    · rw [if_neg h, if_pos (by simpa using h)]; simp only [List.length_cons]; omega
theorem top_mul {n nc : Nat} {a c : Nat → Nat} (ha : ∀ j, n ≤ j → a j = 0) (hc : ∀ j, nc ≤ j → c j = 0) (hn : 0 < n) (hnc : 0 < nc) : mulF p a c (n + nc - 2) = a (n - 1) * c (nc - 1) % p := by
  rw [mulF_conv]
  unfold conv
  rw [sumN_at (s := n - 1) _ (by omega) fun i hi hne => by
    rcases Nat.lt_or_ge i n with h | h
    · rw [hc _ (by omega), Nat.mul_zero]
    · rw [ha i h, Nat.zero_mul], show n + nc - 2 - (n - 1) = nc - 1 from by omega]
/-- a divisor, and what it leaves -/
theorem lin_split {f g Z : List Nat} (hp : Mr.Pr p) (hp2 : p ≤ 2147483647) (hf : LinP p f Z) (hZ : Z.length ≤ 100) (hg : LR p g) (hg0 : 0 < g.length) (hg1 : litF g (g.length - 1) = 1) (hgl : g.length ≤ 256) (hd : Dv p (litF g) (litF f)) :
    ∃ h : List Nat, dmQ p f g = h ∧ LinP p g (Z.filter fun z => LV p g z == 0) ∧ LinP p h (Z.filter fun z => !(LV p g z == 0)) := by
  have hlen := hf.len
  obtain ⟨q1, q2, q3⟩ := dmQ_law hp hp2 hf.lr hg hg0 (by omega) hgl hd
  obtain ⟨h, hh⟩ : ∃ h, dmQ p f g = h := ⟨_, rfl⟩
  rw [hh] at q1 q2 q3
  have hf1 := hf.one
  have h0 : 0 < h.length := by
    rcases Nat.eq_zero_or_pos h.length with e | e
    · rw [q3 Z.length, mulF_conv] at hf1
      rw [show litF h = fun _ => 0 from funext fun j => q1.2.1 j (show h.length ≤ j by omega), conv_zero_left, Nat.zero_mod] at hf1
      omega
    · exact e
  have htop := top_mul (p := p) (n := h.length) (nc := g.length) (a := litF h) (c := litF g) q1.2.1 hg.2.1 h0 hg0
  have hne := mulF_ne hp q1.2.1 hg.2.1 h0 hg0 (q1.last h0) (hg.last hg0) (q1.1 _) (hg.1 _)
  simp only at hne htop
  have hle : h.length + g.length ≤ Z.length + 2 := by
    rcases Nat.lt_or_ge (h.length + g.length - 2) f.length with e | e
    · omega
    · rw [← q3] at hne
      exact absurd (hf.lr.2.1 _ e) hne
  have hval : ∀ z, LV p f z = LV p h z * LV p g z % p := fun z => by
    have e1 : LV p f z = valF p (max f.length (h.length + g.length)) (litF f) z := val_len hf.lr.2.1 fun j hj => hf.lr.2.1 j (show f.length ≤ j by omega)
    rw [e1, show litF f = mulF p (litF h) (litF g) from funext q3]
    exact val_mul q1.2.1 hg.2.1 (by omega)
  have hn1 : (Z.filter fun z => LV p g z == 0).Nodup := hf.nd.filter _
  have hn2 : (Z.filter fun z => !(LV p g z == 0)).Nodup := hf.nd.filter _
  have hr1 : ∀ z, z ∈ (Z.filter fun z => LV p g z == 0) → LV p g z = 0 := fun z hz => by
    have := (List.mem_filter.1 hz).2
    simpa using this
  have hr2 : ∀ z, z ∈ (Z.filter fun z => !(LV p g z == 0)) → LV p h z = 0 := fun z hz => by
    have h1 := (List.mem_filter.1 hz).2
    have h2 := hf.rt z (List.mem_filter.1 hz).1
    rw [hval z] at h2
    rcases mul_zero_or hp (LV.lt hp.pos z) (LV.lt hp.pos z) h2 with h3 | h3
    · exact h3
    · simp [h3] at h1
  have c1 := lin_count hp hg hg0 hn1 (fun z hz => hf.lt z (List.mem_filter.1 hz).1) hr1
  have c2 := lin_count hp q1 h0 hn2 (fun z hz => hf.lt z (List.mem_filter.1 hz).1) hr2
  have c3 := filt_len (Z := Z) fun z => LV p g z == 0
  refine ⟨h, hh, ⟨hg, by omega, ?_, hn1, fun z hz => hf.lt z (List.mem_filter.1 hz).1, hr1⟩, ⟨q1, by omega, ?_, hn2, fun z hz => hf.lt z (List.mem_filter.1 hz).1, hr2⟩⟩
  · rw [← hg1]; congr 1; omega
  · rw [← q3, show h.length + g.length - 2 = Z.length by omega, hf1, hg1, Nat.mul_one, Nat.mod_eq_of_lt (q1.1 _)] at htop
    rw [htop]
    congr 1
    omega
end
end Go.Proofs.Ytkklacgoeopekaa

namespace Go.Proofs.Ytkklacgoeopekaa
open Go.RowKit
set_option linter.unusedVariables false

section
variable {p : Nat}
theorem inv_neg {δ : Nat} (hp : Mr.Pr p) (h : ¬ p ∣ δ) : ∃ m, (1 + m * δ) % p = 0 := by
  have h1 := Mr.flt hp h
  have hp2 := hp.1
  refine ⟨(p - 1) * δ ^ (p - 2), ?_⟩
  rw [Nat.mul_assoc, ← Nat.pow_succ, show (p - 2).succ = p - 1 by omega, Nat.add_mod, Nat.mul_mod, h1, ← Nat.mul_mod, Nat.mul_one, ← Nat.add_mod, show 1 + (p - 1) = p by omega, Nat.mod_self]
/-- a shift that parts two roots -/
theorem shift_parts {z1 z2 N : Nat} (hp : Mr.Pr p) (hN : 0 < N) (h1 : z1 < p) (h2 : z2 < p) (hne : z1 ≠ z2) : ∃ c, c < p ∧ ¬ ((z1 + c) ^ N % p = 1 ↔ (z2 + c) ^ N % p = 1) := by
  rcases Classical.em (∃ c, c < p ∧ ¬ ((z1 + c) ^ N % p = 1 ↔ (z2 + c) ^ N % p = 1)) with h | h
  · exact h
  exfalso
  have hp1 := hp.1
  have hall : ∀ c, c < p → ((z1 + c) ^ N % p = 1 ↔ (z2 + c) ^ N % p = 1) := fun c hc => Classical.byContradiction fun hn => h ⟨c, hc, hn⟩
  have hstep : ∀ y, y ^ N % p = 1 → (y + (z2 + p - z1)) ^ N % p = 1 := fun y hy => by
    obtain ⟨c, hc⟩ : ∃ c, (y + p - z1 % p) % p = c := ⟨_, rfl⟩
    have hcl : c < p := by rw [← hc]; exact Nat.mod_lt _ hp.pos
    have e0 := Nat.mod_eq_of_lt h1
    rw [e0] at hc
    have e1 : (z1 + c) % p = y % p := by
      rw [← hc, Nat.add_mod_mod, show z1 + (y + p - z1) = y + p by omega, Nat.add_mod_right]
    have e2 : (z2 + c) % p = (y + (z2 + p - z1)) % p := by
      rw [← hc, Nat.add_mod_mod]
      congr 1
      omega
    have := hall c hcl
    rw [Nat.pow_mod, e1, ← Nat.pow_mod, Nat.pow_mod (z2 + c), e2, ← Nat.pow_mod] at this
    exact this.1 hy
  have hmany : ∀ m, (1 + m * (z2 + p - z1)) ^ N % p = 1 := fun m => by
    induction m with
    | zero => rw [Nat.zero_mul, Nat.add_zero, Nat.one_pow, Nat.mod_eq_of_lt hp1]
    | succ m ih =>
      have := hstep _ ih
      rw [Nat.succ_mul, ← Nat.add_assoc]
      exact this
  obtain ⟨m, hm⟩ := inv_neg (δ := z2 + p - z1) hp (fun hd => by
    have h3 := Nat.mod_eq_zero_of_dvd hd
    rcases Nat.lt_or_ge z2 z1 with h4 | h4
    · rw [Nat.mod_eq_of_lt (by omega)] at h3; omega
    · rw [show z2 + p - z1 = z2 - z1 + p by omega, Nat.add_mod_right, Nat.mod_eq_of_lt (by omega)] at h3; omega)
  have h5 := hmany m
  rw [Nat.pow_mod, hm, Nat.zero_pow hN, Nat.zero_mod] at h5
  omega
/-- the candidates from p to 2 p - 1 -/
theorem cand_lin {n c : Nat} (hn : 2 ≤ n) (hp : 2 ≤ p) (hc : c < p) : candL p n (p + c) = [c, 1] := by
  have e : dgF p n (p + c) = litF [c, 1] := funext fun j => by
    unfold dgF litF
    rcases j with _ | _ | j
    · rw [if_pos (by omega), Nat.pow_zero, Nat.div_one, Nat.add_mod_left, Nat.mod_eq_of_lt hc]; rfl
    · rw [if_pos (by omega), Nat.pow_one, Nat.add_div_left _ (by omega), Nat.div_eq_of_lt hc, Nat.mod_eq_of_lt (by omega)]; rfl
    · have h0 : (p + c) / p ^ (j + 1 + 1) = 0 := Nat.div_eq_of_lt (by
        have h1 : p ^ 2 ≤ p ^ (j + 1 + 1) := Nat.pow_le_pow_right (by omega) (by omega)
        have h2 : p * 2 ≤ p * p := Nat.mul_le_mul_left p hp
        rw [Nat.pow_two] at h1
        omega)
      rw [h0, Nat.zero_mod]
      simp
  have et : tl (dgF p n (p + c)) n = 2 := tl_unique hn (fun j h1 h2 => by
    rw [e]
    rcases j with _ | _ | j
    · omega
    · omega
    · simp [litF]) (fun _ => by rw [e]; simp [litF])
  unfold candL
  rw [et, e]
  simp [toL, litF, List.range_succ]
theorem lr_lin {c : Nat} (hp : 2 ≤ p) (hc : c < p) : LR p [c, 1] := by
  refine ⟨fun j => ?_, fun j hj => ?_, ?_⟩
  · rcases j with _ | _ | j
    · exact hc
    · show 1 < p; omega
    · show 0 < p; omega
  · have hj' : 2 ≤ j := hj
    rcases j with _ | _ | j
    · omega
    · omega
    · rfl
  · exact tl_unique (Nat.le_refl _) (fun j h1 h2 => by have h1' : 2 ≤ j := h1; have h2' : j < 2 := h2; omega) fun _ => (by decide : (1 : Nat) ≠ 0)
theorem lv_lin {c z : Nat} : LV p [c, 1] z = (z + c) % p := by
  unfold LV valF
  show (0 + c * z ^ 0 + 1 * z ^ 1) % p = _
  rw [Nat.pow_zero, Nat.pow_one]
  congr 1
  omega
/-- the character of a linear candidate, at the roots -/
theorem chr_law {f Z : List Nat} {c : Nat} (hp : Mr.Pr p) (hp2 : p ≤ 65535) (hf : LinP p f Z) (hZ : Z.length ≤ 60) (hc : c < p) :
    chrB p 1 [c, 1] f = true ∧ LR p (chrL p 1 [c, 1] f) ∧ (chrL p 1 [c, 1] f).length < f.length ∧ ∀ z, z ∈ Z → LV p (chrL p 1 [c, 1] f) z = (z + c) ^ ((p - 1) / 2) % p := by
  have hlen := hf.len
  have hp3 : p ≤ 2147483647 := by omega
  obtain ⟨a, ha⟩ : ∃ a, [c, 1] = a := ⟨_, rfl⟩
  obtain ⟨o, ho⟩ : ∃ o, ([1] : List Nat) = o := ⟨_, rfl⟩
  have hal : a.length = 2 := by rw [← ha]; rfl
  have hol : o.length = 1 := by rw [← ho]; rfl
  have har : LR p a := by rw [← ha]; exact lr_lin hp.1 hc
  have hor : LR p o := by rw [← ho]; exact LR.one hp.1
  have hav : ∀ z, LV p a z = (z + c) % p := fun z => by rw [← ha]; exact lv_lin
  have hov : ∀ z, LV p o z = 1 := fun z => by rw [← ho]; exact LV.one hp.1 z
  obtain ⟨D, hD⟩ : ∃ D, dmR p a f = D := ⟨_, rfl⟩
  obtain ⟨M, hM⟩ : ∃ M, mlL p o D = M := ⟨_, rfl⟩
  obtain ⟨E, hE⟩ : ∃ E, dmR p M f = E := ⟨_, rfl⟩
  obtain ⟨X, hX⟩ : ∃ X, pwL p D p f = X := ⟨_, rfl⟩
  obtain ⟨Y, hY⟩ : ∃ Y, mlL p E X = Y := ⟨_, rfl⟩
  obtain ⟨R, hR⟩ : ∃ R, pwL p E ((p - 1) / 2) f = R := ⟨_, rfl⟩
  obtain ⟨d1, d2, d3, d4⟩ := dmR_law hp hp3 har hf.lr (by omega) (by omega) (by omega)
  rw [hD] at d1 d2 d3 d4
  obtain ⟨m1, m2, m3⟩ := mlL_law hp hp3 hor d1 (by omega)
  rw [hM] at m1 m2 m3
  obtain ⟨e1, e2, e3, e4⟩ := dmR_law hp hp3 m1 hf.lr (by omega) (by omega) (by omega)
  rw [hE] at e1 e2 e3 e4
  obtain ⟨x1, x2, _⟩ := pwL_law (N := p) hp hp3 d1 hf.lr (by omega) (by omega) (by omega) (by omega)
  rw [hX] at x1 x2
  obtain ⟨n1, n2, _⟩ := mlL_law hp hp3 e1 x1 (by omega)
  rw [hY] at n1 n2
  obtain ⟨r1, r2, r3⟩ := pwL_law (N := (p - 1) / 2) hp hp3 e1 hf.lr (by omega) (by omega) (by omega) (by omega)
  rw [hR] at r1 r2 r3
  have s0 : chrS p f D 0 = (o, D) := by rw [← ho]; rfl
  have s1 : chrS p f D 1 = (E, X) := by
    show (dmR p (mlL p (chrS p f D 0).1 (chrS p f D 0).2) f, pwL p (chrS p f D 0).2 p f) = _
    rw [s0]
    simp only
    rw [hM, hE, hX]
  have ec : chrL p 1 a f = R := by
    unfold chrL
    rw [hD, s1, hR]
  rw [ha, ec]
  refine ⟨?_, r1, r2, fun z hz => ?_⟩
  · unfold chrB
    rw [hD]
    simp only [Bool.and_eq_true, decide_eq_true_eq, List.all_eq_true, List.mem_range]
    refine ⟨⟨by omega, by omega⟩, fun i hi => ?_⟩
    rcases i with _ | _ | i
    · rw [s0]
      simp only
      rw [hM]
      exact ⟨⟨by omega, by omega⟩, by omega⟩
    · rw [s1]
      simp only
      rw [hY]
      exact ⟨⟨by omega, by omega⟩, by omega⟩
    · omega
  · have h0 := hf.rt z hz
    rw [r3 z h0, e4 z h0, m3 z, d4 z h0, hov, hav, Nat.one_mul, Nat.mod_mod, ← Nat.pow_mod]
/-- a root of the divisor that a candidate leads to -/
theorem gL_law {f Z : List Nat} {c : Nat} (hp : Mr.Pr p) (h3 : 3 ≤ p) (hp2 : p ≤ 65535) (hf : LinP p f Z) (hZ : Z.length ≤ 60) (hZ2 : 2 ≤ Z.length) (hc : c < p) :
    LR p (gL p 1 f (p + c)) ∧ (gL p 1 f (p + c)).length ≤ 256 ∧ 0 < (gL p 1 f (p + c)).length ∧ litF (gL p 1 f (p + c)) ((gL p 1 f (p + c)).length - 1) = 1 ∧ Dv p (litF (gL p 1 f (p + c))) (litF f) ∧ ∀ z, z ∈ Z → (LV p (gL p 1 f (p + c)) z = 0 ↔ (z + c) ^ ((p - 1) / 2) % p = 1) := by
  have hlen := hf.len
  have hp3 : p ≤ 2147483647 := by omega
  obtain ⟨_, c1, c2, c3⟩ := chr_law (c := c) hp hp2 hf hZ hc
  have eg : gL p 1 f (p + c) = gcL p f (sbL p (chrL p 1 [c, 1] f) [1]) := by
    unfold gL
    rw [hlen, Nat.add_sub_cancel, cand_lin hZ2 hp.1 hc]
  obtain ⟨C, hC⟩ : ∃ C, chrL p 1 [c, 1] f = C := ⟨_, rfl⟩
  rw [hC] at c1 c2 c3 eg
  obtain ⟨s1, s2, s3⟩ := sbL_law hp hp3 c1 (by omega)
  obtain ⟨S, hS⟩ : ∃ S, sbL p C [1] = S := ⟨_, rfl⟩
  rw [hS] at s1 s2 s3 eg
  obtain ⟨g1, g2, g3, g4, g5, g6⟩ := gcL_law hp hp3 hf.lr s1 (by omega) (by omega)
  obtain ⟨G, hG⟩ : ∃ G, gcL p f S = G := ⟨_, rfl⟩
  rw [hG] at g1 g2 g3 g4 g5 g6 eg
  rw [eg]
  have hpos : 0 < G.length := by
    rcases Nat.eq_zero_or_pos G.length with e | e
    · exfalso
      rw [show litF G = fun _ => 0 from funext fun j => g1.2.1 j (show G.length ≤ j by omega)] at g4
      have h5 := g4.of_zero hf.lr.1 Z.length
      have h6 := hf.one
      have h5' : litF f Z.length = 0 := h5
      omega
    · exact e
  refine ⟨g1, g2, hpos, g3 hpos, g4, fun z hz => ?_⟩
  have hs := s3 z
  rw [c3 z hz] at hs
  have hsl := LV.lt (l := S) hp.pos z
  constructor
  · intro h0
    have h7 : LV p S z = 0 := g5.val g1.2.1 s1.2.1 h0
    rw [h7, Nat.mod_eq_of_lt (by omega)] at hs
    exact hs.symm
  · intro h1
    rw [h1] at hs
    have h7 : LV p S z = 0 := by
      rcases Nat.lt_or_ge (LV p S z + 1) p with h8 | h8
      · rw [Nat.mod_eq_of_lt h8] at hs; omega
      · rw [show LV p S z + 1 = p by omega, Nat.mod_self] at hs; omega
    have hzp := hf.lt z hz
    have l1 := lin_dv hp s1.1 s1.2.1 hzp h7
    have l2 := lin_dv hp hf.lr.1 hf.lr.2.1 hzp (hf.rt z hz)
    have hv0 : valF p 2 (linF p z) z = 0 := by rw [val_lin hzp, dif_self hzp]
    exact (g6 _ l2 l1).val (nd := 2) (rs_lin (m := p) (x := z) hp.1).2 g1.2.1 hv0
theorem lin_first {P : Nat → Prop} {a : Nat} : ∀ k, a ≤ k → P k → ∃ m, a ≤ m ∧ m ≤ k ∧ P m ∧ ∀ j, a ≤ j → j < m → ¬ P j := by
  intro k
  induction k using Nat.strongRecOn with
  | _ k ih =>
    intro h1 h2
    rcases Classical.em (∃ j, a ≤ j ∧ j < k ∧ P j) with ⟨j, j1, j2, j3⟩ | h
    · obtain ⟨m, m1, m2, m3, m4⟩ := ih j j2 j1 j3
      exact ⟨m, m1, by omega, m3, m4⟩
    · exact ⟨k, h1, Nat.le_refl _, h2, fun j j1 j2 j3 => h ⟨j, j1, j2, j3⟩⟩
/-- the list of the linear factors -/
theorem lin_tree (hp : Mr.Pr p) (h3 : 3 ≤ p) (hp2 : p ≤ 65535) : ∀ (n : Nat) (f Z : List Nat), Z.length = n → 1 ≤ n → n ≤ 60 → LinP p f Z →
    ∃ L, SplT p 1 f L ∧ L.length = Z.length ∧ (∀ z, z ∈ Z → [(p - z) % p, 1] ∈ L) ∧ ∀ l, l ∈ L → l.length = 2 := by
  intro n
  induction n using Nat.strongRecOn with
  | _ n ih =>
    intro f Z hn h1 h60 hf
    have hlen := hf.len
    by_cases h2 : n = 1
    · refine ⟨[f], SplT.leaf f (by omega), by rw [hn, h2]; rfl, fun z hz => ?_, fun l hl => ?_⟩
      · have hl2 : f.length = 2 := by omega
        match f, hl2, hf with
        | [a, b], _, hf =>
          have hb : b = 1 := by
            have := hf.one
            rw [hn, h2] at this
            exact this
          subst hb
          have hr := hf.rt z hz
          rw [lv_lin] at hr
          have ha : a < p := hf.lr.1 0
          have hzp := hf.lt z hz
          have ea : a = (p - z) % p := by
            rcases Nat.eq_zero_or_pos z with e | e
            · subst e
              rw [Nat.zero_add, Nat.mod_eq_of_lt ha] at hr
              rw [Nat.sub_zero, Nat.mod_self, hr]
            · rw [Nat.mod_eq_of_lt (by omega : p - z < p)]
              rcases Nat.lt_or_ge (z + a) p with h5 | h5
              · rw [Nat.mod_eq_of_lt h5] at hr; omega
              · rw [show z + a = z + a - p + p by omega, Nat.add_mod_right, Nat.mod_eq_of_lt (by omega)] at hr; omega
          rw [ea]
          exact List.mem_singleton.2 rfl
      · rw [List.mem_singleton.1 hl]; omega
    · -- two roots, and a shift that parts them
      obtain ⟨z1, z2, hz1, hz2, hne⟩ : ∃ z1 z2, z1 ∈ Z ∧ z2 ∈ Z ∧ z1 ≠ z2 := by
        match Z, hn, hf with
        | a :: b :: Z', _, hf =>
          refine ⟨a, b, by simp, by simp, fun e => ?_⟩
          have := (List.nodup_cons.1 hf.nd).1
          rw [e] at this
          exact this (by simp)
        | [a], hn, _ => exact absurd hn.symm (by simpa using h2)
        | [], hn, _ => exact absurd hn.symm (by simp; omega)
      have hparts : ∀ c, c < p → (∃ h : List Nat, dmQ p f (gL p 1 f (p + c)) = h ∧ LinP p (gL p 1 f (p + c)) (Z.filter fun z => LV p (gL p 1 f (p + c)) z == 0) ∧ LinP p h (Z.filter fun z => !(LV p (gL p 1 f (p + c)) z == 0))) ∧ (∀ z, z ∈ Z → (LV p (gL p 1 f (p + c)) z = 0 ↔ (z + c) ^ ((p - 1) / 2) % p = 1)) := fun c hc => by
        obtain ⟨g1, g2, g3, g4, g5, g6⟩ := gL_law hp h3 hp2 hf (by omega) (by omega) hc
        exact ⟨lin_split hp (by omega) hf (by omega) g1 g3 g4 g2 g5, g6⟩
      obtain ⟨c, hc, hsep⟩ := shift_parts (N := (p - 1) / 2) hp (by omega) (hf.lt z1 hz1) (hf.lt z2 hz2) hne
      have hgood : 1 < (gL p 1 f (p + c)).length ∧ (gL p 1 f (p + c)).length < f.length := by
        obtain ⟨⟨h, hh, L1, L2⟩, hv⟩ := hparts c hc
        have v1 := hv z1 hz1
        have v2 := hv z2 hz2
        have q1 := L1.len
        have q2 := filt_len (Z := Z) fun z => LV p (gL p 1 f (p + c)) z == 0
        have key : ∀ a b, a ∈ Z → b ∈ Z → LV p (gL p 1 f (p + c)) a = 0 → LV p (gL p 1 f (p + c)) b ≠ 0 → 1 ≤ (Z.filter fun z => LV p (gL p 1 f (p + c)) z == 0).length ∧ 1 ≤ (Z.filter fun z => !(LV p (gL p 1 f (p + c)) z == 0)).length := fun a b ha hb h5 h6 =>
          ⟨List.length_pos_of_mem (List.mem_filter.2 ⟨ha, by simp [h5]⟩), List.length_pos_of_mem (List.mem_filter.2 ⟨hb, by simp [h6]⟩)⟩
        rcases Classical.em (LV p (gL p 1 f (p + c)) z1 = 0) with a1 | a1
        · rcases Classical.em (LV p (gL p 1 f (p + c)) z2 = 0) with a2 | a2
          · exact absurd ⟨fun _ => v2.1 a2, fun _ => v1.1 a1⟩ hsep
          · have := key z1 z2 hz1 hz2 a1 a2
            omega
        · rcases Classical.em (LV p (gL p 1 f (p + c)) z2 = 0) with a2 | a2
          · have := key z2 z1 hz2 hz1 a2 a1
            omega
          · exact absurd ⟨fun h => absurd (v1.2 h) a1, fun h => absurd (v2.2 h) a2⟩ hsep
      obtain ⟨k, k1, k2, k3, k4⟩ := lin_first (P := fun k => 1 < (gL p 1 f k).length ∧ (gL p 1 f k).length < f.length) (a := p) (p + c) (by omega) hgood
      obtain ⟨c', rfl⟩ : ∃ c', k = p + c' := ⟨k - p, by omega⟩
      have hc' : c' < p := by omega
      obtain ⟨⟨h, hh, L1, L2⟩, hv⟩ := hparts c' hc'
      have q1 := L1.len
      have q2 := filt_len (Z := Z) fun z => LV p (gL p 1 f (p + c')) z == 0
      have q3 := L2.len
      obtain ⟨M1, t1, t2, t3, t4⟩ := ih _ (by omega) _ _ rfl (by omega) (by omega) L1
      obtain ⟨M2, s1, s2, s3, s4⟩ := ih _ (by omega) _ _ rfl (by omega) (by omega) L2
      refine ⟨M1 ++ M2, SplT.node f (p + c') M1 M2 (by omega) (by omega) (by omega) (fun j j1 j2 => ?_) k4 k3 t1 (by rw [hh]; exact s1), by rw [List.length_append]; omega, fun z hz => ?_, fun l hl => ?_⟩
      · obtain ⟨e, rfl⟩ : ∃ e, j = p + e := ⟨j - p, by omega⟩
        have he : e < p := by omega
        obtain ⟨b1, b2, b3, _⟩ := chr_law hp hp2 hf (by omega) he
        rw [hlen, Nat.add_sub_cancel, cand_lin (by omega) hp.1 he]
        exact ⟨b1, by omega⟩
      · rcases Classical.em (LV p (gL p 1 f (p + c')) z = 0) with h5 | h5
        · exact List.mem_append_left _ (t3 z (List.mem_filter.2 ⟨hz, by simp [h5]⟩))
        · exact List.mem_append_right _ (s3 z (List.mem_filter.2 ⟨hz, by simp [h5]⟩))
      · rcases List.mem_append.1 hl with h5 | h5
        · exact t4 l h5
        · exact s4 l h5
end
end Go.Proofs.Ytkklacgoeopekaa
