/- The plain law of factor.Factors, part 3: a product of distinct linear polynomials, and how a divisor splits it. No program in sight. -/
import Derived.Test.YtkklacgoeopekaaPg7
namespace Go.Proofs.Ytkklacgoeopekaa
open Go.RowKit
set_option linter.unusedVariables false

/-- a monic list with as many different roots as its degree -/
structure LinP (p : Nat) (f : List Nat) (Z : List Nat) : Prop where
  lr : LR p f
  len : f.length = Z.length + 1
  one : litF f Z.length = 1
  nd : Z.Nodup
  lt : ∀ z, z ∈ Z → z < p
  rt : ∀ z, z ∈ Z → LV p f z = 0
section
variable {p : Nat}
theorem dif_ne {a b : Nat} (ha : a < p) (hb : b < p) (h : a ≠ b) : ¬ p ∣ dif p a b := fun hd => by
  have h1 := Nat.mod_eq_zero_of_dvd hd
  unfold dif at h1
  rw [Nat.mod_mod] at h1
  rcases Nat.lt_or_ge a b with h2 | h2
  · rw [Nat.mod_eq_of_lt (by omega)] at h1; omega
  · rw [show a + p - b = a - b + p by omega, Nat.add_mod_right, Nat.mod_eq_of_lt (by omega)] at h1; omega
theorem apart_of {Z : List Nat} (hp : Mr.Pr p) (hn : Z.Nodup) (hl : ∀ z, z ∈ Z → z < p) : Apart p Z.length fun i => Z.getD i 0 := fun i k hk hi => by
  have e1 : Z.getD i 0 = Z[i] := by rw [List.getD_eq_getElem?_getD, List.getElem?_eq_getElem hi]; rfl
  have e2 : Z.getD k 0 = Z[k] := by rw [List.getD_eq_getElem?_getD, List.getElem?_eq_getElem (by omega)]; rfl
  simp only [e1, e2]
  refine hp.coprime (dif_ne (hl _ (List.getElem_mem _)) (hl _ (List.getElem_mem _)) ?_)
  intro h
  have := (List.getElem_inj hn).1 h
  omega
/-- no more roots than the degree -/
theorem lin_count {f Z : List Nat} (hp : Mr.Pr p) (hf : LR p f) (h0 : 0 < f.length) (hn : Z.Nodup) (hl : ∀ z, z ∈ Z → z < p) (hr : ∀ z, z ∈ Z → LV p f z = 0) : Z.length + 1 ≤ f.length := by
  rcases Nat.lt_or_ge Z.length f.length with h | h
  · omega
  have hg : ∀ i, i < Z.length → Z.getD i 0 ∈ Z := fun i hi => by
    rw [List.getD_eq_getElem?_getD, List.getElem?_eq_getElem hi]
    exact List.getElem_mem _
  have h1 := roots_zero (m := p) (x := fun i => Z.getD i 0) hp.1 Z.length (litF f) (fun j hj => hl _ (hg j hj)) (apart_of hp hn hl) (fun j hj => hf.2.1 j (show f.length ≤ j by omega)) (fun i hi => by
    have h2 := hr _ (hg i hi)
    exact (val_len (fun j hj => hf.2.1 j (show f.length ≤ j by omega)) hf.2.1).trans h2) (f.length - 1)
  rw [Nat.mod_eq_of_lt (hf.1 _)] at h1
  exact absurd h1 (hf.last h0)
theorem mul_zero_or {a b : Nat} (hp : Mr.Pr p) (ha : a < p) (hb : b < p) (h : a * b % p = 0) : a = 0 ∨ b = 0 := by
  rcases hp.dvd_mul (Nat.dvd_of_mod_eq_zero h) with h1 | h1
  · exact .inl (Nat.eq_zero_of_dvd_of_lt h1 ha)
  · exact .inr (Nat.eq_zero_of_dvd_of_lt h1 hb)
theorem LV.lt {l : List Nat} (hp : 0 < p) (z : Nat) : LV p l z < p := valF_lt hp _ _ _
theorem filt_len {Z : List Nat} (q : Nat → Bool) : (Z.filter q).length + (Z.filter fun z => !q z).length = Z.length := by
  induction Z with
  | nil => rfl
  | cons a Z ih =>
    rw [List.filter_cons, List.filter_cons]
    by_cases h : q a = true
    · rw [if_pos h, if_neg (by simp [h])]; simp only [List.length_cons]; omega
    · rw [if_neg h, if_pos (by simpa using h)]; simp only [List.length_cons]; omega
theorem top_mul {n nc : Nat} {a c : Nat → Nat} (ha : ∀ j, n ≤ j → a j = 0) (hc : ∀ j, nc ≤ j → c j = 0) (hn : 0 < n) (hnc : 0 < nc) : mulF p a c (n + nc - 2) = a (n - 1) * c (nc - 1) % p := by
  rw [mulF_conv]
  unfold conv
  rw [sumN_at (s := n - 1) _ (by omega) fun i hi hne => by
    rcases Nat.lt_or_ge i n with h | h
    · rw [hc _ (by omega), Nat.mul_zero]
    · rw [ha i h, Nat.zero_mul], show n + nc - 2 - (n - 1) = nc - 1 from by omega]
/-- a divisor, and what it leaves -/
theorem lin_split {f g Z : List Nat} (hp : Mr.Pr p) (hp2 : p ≤ 2147483647) (hf : LinP p f Z) (hZ : Z.length ≤ 100) (hg : LR p g) (hg0 : 0 < g.length) (hg1 : litF g (g.length - 1) = 1) (hgl : g.length ≤ 256) (hd : Dv p (litF g) (litF f)) :
    ∃ h : List Nat, dmQ p f g = h ∧ LinP p g (Z.filter fun z => LV p g z == 0) ∧ LinP p h (Z.filter fun z => !(LV p g z == 0)) := by
  have hlen := hf.len
  obtain ⟨q1, q2, q3⟩ := dmQ_law hp hp2 hf.lr hg hg0 (by omega) hgl hd
  obtain ⟨h, hh⟩ : ∃ h, dmQ p f g = h := ⟨_, rfl⟩
  rw [hh] at q1 q2 q3
  have hf1 := hf.one
  have h0 : 0 < h.length := by
    rcases Nat.eq_zero_or_pos h.length with e | e
    · rw [q3 Z.length, mulF_conv] at hf1
      rw [show litF h = fun _ => 0 from funext fun j => q1.2.1 j (show h.length ≤ j by omega), conv_zero_left, Nat.zero_mod] at hf1
      omega
    · exact e
  have htop := top_mul (p := p) (n := h.length) (nc := g.length) (a := litF h) (c := litF g) q1.2.1 hg.2.1 h0 hg0
  have hne := mulF_ne hp q1.2.1 hg.2.1 h0 hg0 (q1.last h0) (hg.last hg0) (q1.1 _) (hg.1 _)
  simp only at hne htop
  have hle : h.length + g.length ≤ Z.length + 2 := by
    rcases Nat.lt_or_ge (h.length + g.length - 2) f.length with e | e
    · omega
    · rw [← q3] at hne
      exact absurd (hf.lr.2.1 _ e) hne
  have hval : ∀ z, LV p f z = LV p h z * LV p g z % p := fun z => by
    have e1 : LV p f z = valF p (max f.length (h.length + g.length)) (litF f) z := val_len hf.lr.2.1 fun j hj => hf.lr.2.1 j (show f.length ≤ j by omega)
    rw [e1, show litF f = mulF p (litF h) (litF g) from funext q3]
    exact val_mul q1.2.1 hg.2.1 (by omega)
  have hn1 : (Z.filter fun z => LV p g z == 0).Nodup := hf.nd.filter _
  have hn2 : (Z.filter fun z => !(LV p g z == 0)).Nodup := hf.nd.filter _
  have hr1 : ∀ z, z ∈ (Z.filter fun z => LV p g z == 0) → LV p g z = 0 := fun z hz => by
    have := (List.mem_filter.1 hz).2
    simpa using this
  have hr2 : ∀ z, z ∈ (Z.filter fun z => !(LV p g z == 0)) → LV p h z = 0 := fun z hz => by
    have h1 := (List.mem_filter.1 hz).2
    have h2 := hf.rt z (List.mem_filter.1 hz).1
    rw [hval z] at h2
    rcases mul_zero_or hp (LV.lt hp.pos z) (LV.lt hp.pos z) h2 with h3 | h3
    · exact h3
    · simp [h3] at h1
  have c1 := lin_count hp hg hg0 hn1 (fun z hz => hf.lt z (List.mem_filter.1 hz).1) hr1
  have c2 := lin_count hp q1 h0 hn2 (fun z hz => hf.lt z (List.mem_filter.1 hz).1) hr2
  have c3 := filt_len (Z := Z) fun z => LV p g z == 0
  refine ⟨h, hh, ⟨hg, by omega, ?_, hn1, fun z hz => hf.lt z (List.mem_filter.1 hz).1, hr1⟩, ⟨q1, by omega, ?_, hn2, fun z hz => hf.lt z (List.mem_filter.1 hz).1, hr2⟩⟩
  · rw [← hg1]; congr 1; omega
  · rw [← q3, show h.length + g.length - 2 = Z.length by omega, hf1, hg1, Nat.mul_one, Nat.mod_eq_of_lt (q1.1 _)] at htop
    rw [htop]
    congr 1
    omega
end
end Go.Proofs.Ytkklacgoeopekaa
