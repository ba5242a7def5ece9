/- The plain law of factor.Factors, part 2: differences, greatest common divisors, quotients. No program in sight. -/
import Derived.Test.YtkklacgoeopekaaPf7
namespace Go.Proofs.Ytkklacgoeopekaa
open Go.RowKit
set_option linter.unusedVariables false

section
variable {p : Nat}
theorem litF_one : litF [1] = oneF 1 := funext fun j => by
  unfold litF oneF
  rcases j with _ | j
  · rfl
  · simp
theorem LR.one (hp : 2 ≤ p) : LR p [1] := by
  unfold LR
  rw [litF_one]
  exact res_one hp
theorem LV.one (hp : 2 ≤ p) (z : Nat) : LV p [1] z = 1 := by
  unfold LV
  rw [litF_one]
  exact val_one hp
theorem sub_add {a b : Nat → Nat} (ha : ∀ j, a j < p) (hb : ∀ j, b j < p) : addF p (subF p a b) b = a := funext fun j => by
  unfold addF subF
  have h1 := ha j
  have h2 := hb j
  rw [Nat.add_mod, Nat.mod_mod, ← Nat.add_mod, show a j + p - b j + b j = a j + p by omega, Nat.add_mod_right, Nat.mod_eq_of_lt h1]
theorem sbL_law {c : List Nat} (hp : Mr.Pr p) (hp2 : p ≤ 2147483647) (hc : LR p c) (hn : c.length ≤ 256) :
    LR p (sbL p c [1]) ∧ (sbL p c [1]).length ≤ max c.length 1 ∧ ∀ z, (LV p (sbL p c [1]) z + 1) % p = LV p c z := by
  have h1 := LR.one hp.1
  have hE : chk2 p c.length (litF c) ([1] : List Nat).length (litF [1]) = 0 := chk2_of (hc.chk hp.1 hp2 hn) (h1.chk hp.1 hp2 (by decide))
  have hz : ∀ j, max c.length 1 ≤ j → subF p (litF c) (litF [1]) j = 0 := fun j hj => by
    unfold subF
    rw [show litF c j = 0 from hc.2.1 j (show c.length ≤ j by omega), show litF [1] j = 0 from h1.2.1 j (show 1 ≤ j by omega), Nat.zero_add, Nat.sub_zero, Nat.mod_self]
  have hres : Res p (tl (subF p (litF c) (litF [1])) (max c.length 1), subF p (litF c) (litF [1])) := ⟨fun j => Nat.mod_lt _ hp.pos, fun j hj => by
    rcases Nat.lt_or_ge j (max c.length 1) with h | h
    · exact tl_zero _ _ j hj h
    · exact hz j h, tl_tl _ _⟩
  have e : sbL p c [1] = toL (tl (subF p (litF c) (litF [1])) (max c.length 1)) (subF p (litF c) (litF [1])) := by
    unfold sbL okF
    rw [hE, if_pos rfl]
    rfl
  rw [e]
  refine ⟨LR.of hres, by rw [toL_len]; exact tl_le _ _, fun z => ?_⟩
  rw [LV.of hres]
  have v1 : valF p (tl (subF p (litF c) (litF [1])) (max c.length 1)) (subF p (litF c) (litF [1])) z = valF p (max c.length 1) (subF p (litF c) (litF [1])) z := val_len hres.2.1 hz
  have v2 : LV p c z = valF p (max c.length 1) (litF c) z := val_len hc.2.1 fun j hj => hc.2.1 j (show c.length ≤ j by omega)
  have v3 : valF p (max c.length 1) (litF [1]) z = 1 :=
    (val_len (n := 1) (k := max c.length 1) h1.2.1 fun j hj => h1.2.1 j (show 1 ≤ j by omega)).symm.trans (LV.one hp.1 z)
  show (valF p (tl _ _) _ z + 1) % p = _
  rw [v1, v2]
  have h3 := val_add (m := p) (N := max c.length 1) (a := subF p (litF c) (litF [1])) (b := litF [1]) (x := z)
  rw [sub_add hc.1 h1.1, v3] at h3
  exact h3.symm
/-- a root of a divisor is one of the multiple -/
theorem Dv.val {d a : Nat → Nat} {nd na z : Nat} (h : Dv p d a) (hd : ∀ j, nd ≤ j → d j = 0) (ha : ∀ j, na ≤ j → a j = 0) (hz : valF p nd d z = 0) : valF p na a z = 0 := by
  obtain ⟨q, N, h1, h2⟩ := h
  have e1 : valF p na a z = valF p (max na (N + nd)) a z := val_len ha fun j hj => ha j (by omega)
  have e2 : valF p (max na (N + nd)) a z = valF p (max na (N + nd)) (mulF p q d) z := by
    rw [← val_modF (f := a)]
    congr 1
    funext j
    rw [h2 j]
    rfl
  rw [e1, e2, val_mul h1 hd (by omega), hz, Nat.mul_zero, Nat.zero_mod]
/-- at a root the linear polynomial divides -/
theorem lin_dv {a : Nat → Nat} {n z : Nat} (hp : Mr.Pr p) (ha : ∀ j, a j < p) (hn : ∀ j, n ≤ j → a j = 0) (hz : z < p) (hv : valF p n a z = 0) : Dv p (linF p z) a := by
  have hl := rs_lin (m := p) (x := z) hp.1
  have hroot : valF p 2 (linF p z) z = 0 := by rw [val_lin hz, dif_self hz]
  have h1 : (1 : Nat) * linF p z (2 - 1) % p = 1 % p := rfl
  have hlt : ∀ j, dR p 2 (linF p z) 1 (dL n 2) a j < p := dR_lt hp.pos _ _ ha
  have hhigh : ∀ j, 1 ≤ j → dR p 2 (linF p z) 1 (dL n 2) a j = 0 := dR_high hp.pos (by omega) h1 hl.2 _ a ha fun j hj => hn j (by unfold dL at hj; omega)
  have hval := val_dR (iv := 1) hl.2 hroot (dL n 2) a (N := n + 2) (by unfold dL; omega)
  rw [val_low hlt hhigh (by omega), val_more (n := n) hn (by omega), hv] at hval
  have hzero : ∀ j, dR p 2 (linF p z) 1 (dL n 2) a j = 0 := fun j => by
    rcases Nat.eq_zero_or_pos j with h | h
    · rw [h]; exact hval
    · exact hhigh j h
  exact Dv.back (iv := 1) (nb := 2) (i := dL n 2) hp.pos ((Dv.zero p (linF p z)).congr fun j => by rw [hzero j]) (Dv.refl p _)
theorem gcL_law {a b : List Nat} (hp : Mr.Pr p) (hp2 : p ≤ 2147483647) (ha : LR p a) (hb : LR p b) (hn : a.length ≤ 256) (hnb : b.length ≤ 256) :
    LR p (gcL p a b) ∧ (gcL p a b).length ≤ 256 ∧ (0 < (gcL p a b).length → litF (gcL p a b) ((gcL p a b).length - 1) = 1) ∧ Dv p (litF (gcL p a b)) (litF a) ∧ Dv p (litF (gcL p a b)) (litF b) ∧ ∀ c, Dv p c (litF a) → Dv p c (litF b) → Dv p c (litF (gcL p a b)) := by
  have hE : chk2 p a.length (litF a) b.length (litF b) = 0 := chk2_of (ha.chk hp.1 hp2 hn) (hb.chk hp.1 hp2 hnb)
  obtain ⟨k, d, hg, hk, hd1, hd2, hd3, hd4, hd5, hd6⟩ := gcdF_spec hp ha hb hn hnb
  have hres : Res p (k, d) := ⟨hd1, hd2, tl_unique (Nat.le_refl _) (fun j h1 h2 => by have h1' : k ≤ j := h1; have h2' : j < k := h2; omega) fun h => by
    show d (k - 1) ≠ 0
    rw [hd3 h]
    exact Nat.one_ne_zero⟩
  have e : gcL p a b = toL k d := by
    unfold gcL
    rw [if_pos hE, hg]
  have e2 := toL_pair hres
  simp only at e2
  rw [e, e2.1, e2.2]
  exact ⟨LR.of hres, hk, hd3, hd4, hd5, hd6⟩
theorem dQ_eq {nb iv : Nat} {b : Nat → Nat} (hm : 0 < p) : ∀ i (r : Nat → Nat) (j : Nat), r j % p = (dR p nb b iv i r j + conv (dQ p nb b iv i r) b j) % p
  | 0, r, j => by rw [dR, show dQ p nb b iv 0 r = fun _ => 0 from rfl, conv_zero_left, Nat.add_zero]
  | i + 1, r, j => by
    have ih := dQ_eq (nb := nb) (iv := iv) (b := b) hm i (dStep p nb b iv i r) j
    have hq : dQ p nb b iv (i + 1) r = fun t => monoF (dC p nb iv i r) i t + dQ p nb b iv i (dStep p nb b iv i r) t := funext fun t => by
      show (if t = i then dC p nb iv i r else dQ p nb b iv i (dStep p nb b iv i r) t) = _
      unfold monoF
      by_cases ht : t = i
      · rw [if_pos ht, if_pos ht, ht, dQ_out i _ i (Nat.le_refl _), Nat.add_zero]
      · rw [if_neg ht, if_neg ht, Nat.zero_add]
    rw [hq, conv_add, conv_monoF, dR, Nat.add_left_comm, Nat.add_mod, ← ih, ← Nat.add_mod]
    unfold dStep
    by_cases hij : i ≤ j
    · rw [if_pos hij, if_pos hij, Nat.add_mod, Nat.mod_mod, ← Nat.add_mod]
      have hc : dC p nb iv i r ≤ p := Nat.le_of_lt (Nat.mod_lt _ hm)
      rw [show dC p nb iv i r * b (j - i) + (r j + (p - dC p nb iv i r) * b (j - i)) = r j + p * b (j - i) from by
        rw [Nat.add_left_comm, ← Nat.add_mul, Nat.add_sub_cancel' hc], Nat.add_mul_mod_self_left]
    · rw [if_neg hij, if_neg hij, Nat.zero_add]
/-- the quotient of an exact division -/
theorem dmQ_law {f g : List Nat} (hp : Mr.Pr p) (hp2 : p ≤ 2147483647) (hf : LR p f) (hg : LR p g) (hg0 : 0 < g.length) (hn : f.length ≤ 256) (hnb : g.length ≤ 256) (hd : Dv p (litF g) (litF f)) :
    LR p (dmQ p f g) ∧ (dmQ p f g).length ≤ f.length + 1 ∧ ∀ j, litF f j = mulF p (litF (dmQ p f g)) (litF g) j := by
  obtain ⟨iv, hu, hi1, hi2⟩ := unit_prime hp hg hg0
  have hE : dvE p f.length (litF f) g.length (litF g) = 0 := by
    unfold dvE
    rw [chk2_of (hf.chk hp.1 hp2 hn) (hg.chk hp.1 hp2 hnb), if_pos rfl, hu]
    rfl
  obtain ⟨q, hq⟩ : ∃ q, dQ p g.length (litF g) iv (dL f.length g.length) (litF f) = q := ⟨_, rfl⟩
  have hqo : ∀ j, dL f.length g.length ≤ j → q j = 0 := fun j hj => by rw [← hq]; exact dQ_out _ _ j hj
  have hres : Res p (tl q (dL f.length g.length), q) := ⟨fun j => by rw [← hq]; exact dQ_lt hp.pos _ _ j, fun j hj => by
    rcases Nat.lt_or_ge j (dL f.length g.length) with h | h
    · exact tl_zero _ _ j hj h
    · exact hqo j h, tl_tl _ _⟩
  have e : dmQ p f g = toL (tl q (dL f.length g.length)) q := by
    unfold dmQ dvQ
    rw [if_pos hE, hu]
    show toL (tl (dQ p g.length (litF g) iv (dL f.length g.length) (litF f)) _) (dQ p g.length (litF g) iv (dL f.length g.length) (litF f)) = _
    rw [hq]
  have e2 := toL_pair hres
  simp only at e2
  rw [e]
  refine ⟨LR.of hres, by rw [toL_len]; exact Nat.le_trans (tl_le _ _) (by unfold dL; omega), fun j => ?_⟩
  rw [e2.2]
  have hrz : ∀ j, dR p g.length (litF g) iv (dL f.length g.length) (litF f) j % p = 0 := dv_small hg.2.1 hg0 hi2 (hd.rest (Dv.refl p _)) fun j hj => by
    rw [dR_high hp.pos hg0 hi2 hg.2.1 _ (litF f) hf.1 (fun j hj => hf.2.1 j (by show f.length ≤ j; unfold dL at hj; omega)) j hj, Nat.zero_mod]
  have h3 := dQ_eq (nb := g.length) (iv := iv) (b := litF g) hp.pos (dL f.length g.length) (litF f) j
  rw [hq, Nat.add_mod, hrz j, Nat.zero_add, Nat.mod_mod, Nat.mod_eq_of_lt (hf.1 j)] at h3
  exact h3
end
end Go.Proofs.Ytkklacgoeopekaa
