/- Polynomials in x^e of degree two, modulo which x + c has its norm. No program in sight. -/
import Derived.Test.YtkklacgoeopekaaKn7
import Derived.Test.YtkklacgoeopekaaKu7
import Derived.Test.YtkklacgoeopekaaFs7
namespace Go.Proofs.Ytkklacgoeopekaa
open Go.RowKit
set_option linter.unusedVariables false

def triF (p e τ δ : Nat) : Nat → Nat := fun j => if j = 2 * e then 1 else if j = e then (p - τ) % p else if j = 0 then (p - δ) % p else 0
def tri (p e : Nat) (t : Nat × Nat) : List Nat := toL (2 * e + 1) (triF p e t.1 t.2)
def kpA (p e : Nat) (φ : List Nat) : Nat := if e = 1 then p - litF φ e else litF φ e
/-- the character of x + c modulo φ -/
def kpV (p e : Nat) (φ : List Nat) (c : Nat) : Nat := ((c ^ (2 * e) + kpA p e φ * c ^ e + litF φ 0) % p) ^ ((p - 1) / 2) % p
section
variable {p : Nat}
theorem triF_res {e τ δ : Nat} (hp : 2 ≤ p) (he : 1 ≤ e) : Res p (2 * e + 1, triF p e τ δ) := ⟨fun j => by
  show triF p e τ δ j < p
  unfold triF
  split
  · omega
  split
  · exact Nat.mod_lt _ (by omega)
  split
  · exact Nat.mod_lt _ (by omega)
  · omega, fun j hj => by
  have hj' : 2 * e + 1 ≤ j := hj
  show triF p e τ δ j = 0
  unfold triF
  rw [if_neg (by omega), if_neg (by omega), if_neg (by omega)], tl_unique (Nat.le_refl _) (fun j h1 h2 => by have h1' : 2 * e + 1 ≤ j := h1; have h2' : j < 2 * e + 1 := h2; omega) fun _ => by
  show triF p e τ δ (2 * e + 1 - 1) ≠ 0
  unfold triF
  rw [if_pos (by omega)]
  exact Nat.one_ne_zero⟩
theorem tri_litF {e : Nat} {t : Nat × Nat} (hp : 2 ≤ p) (he : 1 ≤ e) : litF (tri p e t) = triF p e t.1 t.2 := litF_toL (triF_res hp he).2.1
theorem tri_len {e : Nat} {t : Nat × Nat} : (tri p e t).length = 2 * e + 1 := toL_len _ _
theorem tri_lr {e : Nat} {t : Nat × Nat} (hp : 2 ≤ p) (he : 1 ≤ e) : LR p (tri p e t) := LR.of (P := (2 * e + 1, triF p e t.1 t.2)) (triF_res hp he)
theorem fv_mono {hp : 0 < p} {φ : Nat → Nat} (c : Nat) : ∀ s, fv p hp φ (monoF c s) = (c : KR p hp φ) * fv p hp φ (monoF 1 1) ^ s
  | 0 => by
    rw [CRg.pow_zero, CRg.mul_one, ← fv_one]
    rfl
  | s + 1 => by
    have h1 : ∀ j, s + 1 ≤ j → monoF c s j = 0 := fun j hj => by unfold monoF; rw [if_neg (by omega)]
    have h2 : ∀ j, 2 ≤ j → monoF 1 1 j = 0 := fun j hj => by unfold monoF; rw [if_neg (by omega)]
    have e1 : monoF c (s + 1) = conv (monoF c s) (monoF 1 1) := funext fun j => by
      rw [conv_monoF]
      unfold monoF
      by_cases h : j = s + 1
      · rw [if_pos h, if_pos (by omega), if_pos (by omega), Nat.mul_one]
      · rw [if_neg h]
        split
        · rw [if_neg (by omega), Nat.mul_zero]
        · rfl
    rw [e1, fv_conv h1 h2, fv_mono c s, CRg.pow_succ, CRg.mul_assoc]
theorem mono_end (c s : Nat) : ∀ j, s + 1 ≤ j → monoF c s j = 0 := fun j hj => by unfold monoF; rw [if_neg (by omega)]
theorem one_end (c : Nat) : ∀ j, 1 ≤ j → oneF c j = 0 := fun j hj => oneF_out hj
theorem tri_fv {hp : 0 < p} {φ : Nat → Nat} {e τ δ : Nat} (he : 1 ≤ e) (ht : τ ≤ p) (hd : δ ≤ p) : fv p hp φ (triF p e τ δ) = fv p hp φ (monoF 1 1) ^ (2 * e) - (τ : KR p hp φ) * fv p hp φ (monoF 1 1) ^ e - (δ : KR p hp φ) := by
  have e1 : triF p e τ δ = fun j => monoF 1 (2 * e) j + (monoF ((p - τ) % p) e j + oneF ((p - δ) % p) j) := funext fun j => by
    unfold triF monoF oneF
    by_cases h1 : j = 2 * e
    · rw [if_pos h1, if_pos h1, if_neg (by omega), if_neg (by omega)]
    · rw [if_neg h1, if_neg h1]
      by_cases h2 : j = e
      · rw [if_pos h2, if_pos h2, if_neg (by omega)]; omega
      · rw [if_neg h2, if_neg h2]; omega
  rw [e1, fv_plus (mono_end 1 (2 * e)) (g := fun j => monoF ((p - τ) % p) e j + oneF ((p - δ) % p) j) (m := e + 1) (fun j hj => by
    show monoF ((p - τ) % p) e j + oneF ((p - δ) % p) j = 0
    rw [mono_end _ e j hj, one_end _ j (by omega)]), fv_plus (mono_end _ e) (one_end _), fv_mono 1 (2 * e), fv_mono ((p - τ) % p) e, fv_one, Rg.cast_mod KR.p0, Rg.cast_mod KR.p0, Rg.cast_sub KR.p0 ht, Rg.cast_sub KR.p0 hd, Rg.cast_one]
  generalize (τ : KR p hp φ) = T
  generalize (δ : KR p hp φ) = D
  generalize fv p hp φ (monoF 1 1) ^ (2 * e) = A
  generalize fv p hp φ (monoF 1 1) ^ e = B
  exact rg0 [A, B, T, D] (by decide +kernel)
theorem lin_fv {hp : 0 < p} {φ : Nat → Nat} (c : Nat) : lv p hp φ [c, 1] = fv p hp φ (monoF 1 1) + (c : KR p hp φ) := by
  have e1 : litF [c, 1] = fun j => monoF 1 1 j + oneF c j := funext fun j => by
    unfold litF monoF oneF
    rcases j with _ | _ | j
    · simp
    · simp
    · simp
  unfold lv
  rw [e1, fv_plus (mono_end 1 1) (one_end c), fv_one]
theorem whole_fv {hp : 0 < p} {φ : Nat → Nat} {n : Nat} (hn : 1 ≤ n) : fv p hp φ (wholeF n) = fv p hp φ (monoF 1 1) ^ n + 1 := by
  have e1 : wholeF n = fun j => monoF 1 n j + oneF 1 j := funext fun j => by
    unfold wholeF monoF oneF
    by_cases h1 : j = n
    · rw [if_pos h1, if_pos h1, if_neg (by omega)]
    · rw [if_neg h1, if_neg h1]; omega
  rw [e1, fv_plus (mono_end 1 n) (one_end 1), fv_mono 1 n, fv_one, Rg.cast_one]
  generalize fv p hp φ (monoF 1 1) ^ n = A
  exact rg0 [A] (by decide +kernel)
/-- what is known of a pair -/
structure Tri (p n e m : Nat) (t : Nat × Nat) : Prop where
  lt1 : t.1 < p
  lt2 : t.2 < p
  pit : pit p t.1 t.2 (Nat.log2 m + 1) 0 1 = true
  cs : (p % (4 * m) = 2 * m + 1 ∧ t.1 = 0) ∨ (p % (4 * m) ≠ 2 * m + 1 ∧ p % (4 * m) = 2 * m - 1 ∧ t.2 = 1) ∨ (p % (4 * m) ≠ 2 * m + 1 ∧ p % (4 * m) = 4 * m - 1 ∧ t.2 + 1 = p)
structure Par (p n e m : Nat) : Prop where
  he : e = 1 ∨ e = 2 ∨ e = 4 ∨ e = 8
  hn : n = 2 * m * e
  hm : 1 ≤ m ∧ 2 ^ Nat.log2 m = m
  hperm : ((List.range e).map fun j => p ^ (2 * j) % (2 * n)).Perm (Rg.prog n e)
theorem Par.e1 {n e m : Nat} (h : Par p n e m) : 1 ≤ e := by rcases h.he with h | h | h | h <;> omega
/-- x modulo φ -/
theorem Tri.facts {n e m : Nat} {t : Nat × Nat} (hp : Mr.Pr p) (hP : Par p n e m) (h : Tri p n e m t) :
    ∃ x y : KR p hp.pos (litF (tri p e t)), fv p hp.pos (litF (tri p e t)) (monoF 1 1) = x ∧ x ^ e = y ∧ y * y = (t.1 : KR p hp.pos (litF (tri p e t))) * y + (t.2 : KR p hp.pos (litF (tri p e t))) ∧ y ^ (2 * m) = -1 ∧ x ^ n = -1 ∧ y ^ p = (t.1 : KR p hp.pos (litF (tri p e t))) - y := by
  have hp2 := hp.1
  have he1 := hP.e1
  have h0 : ((p : Nat) : KR p hp.pos (litF (tri p e t))) = 0 := KR.p0
  have hz : fv p hp.pos (litF (tri p e t)) (triF p e t.1 t.2) = 0 := by
    have h1 := fv_self (p := p) (hp := hp.pos) (φ := litF (tri p e t)) (litF_end _)
    rw [show fv p hp.pos (litF (tri p e t)) (triF p e t.1 t.2) = fv p hp.pos (litF (tri p e t)) (litF (tri p e t)) by rw [tri_litF hp2 he1]]
    exact h1
  rw [tri_fv he1 (Nat.le_of_lt h.lt1) (Nat.le_of_lt h.lt2)] at hz
  generalize fv p hp.pos (litF (tri p e t)) (monoF 1 1) = x at hz ⊢
  rw [Nat.mul_comm 2 e, Rg.pow_mul] at hz
  have hy : x ^ e * x ^ e = (t.1 : KR p hp.pos (litF (tri p e t))) * x ^ e + (t.2 : KR p hp.pos (litF (tri p e t))) := by
    generalize x ^ e = y at hz ⊢
    generalize (t.1 : KR p hp.pos (litF (tri p e t))) = T at hz ⊢
    generalize (t.2 : KR p hp.pos (litF (tri p e t))) = D at hz ⊢
    exact rg1 [y, T, D] hz (1) (by decide +kernel)
  have h2 : (x ^ e) ^ (2 * m) = -1 := by
    have h3 := Rg.pit_sound h0 hy _ 0 1 h.pit
    rw [Nat.pow_succ, hP.hm.2, Rg.cast_zero, Rg.cast_one] at h3
    rw [← h3, Nat.mul_comm]
    congr 1
    generalize x ^ e = y
    exact rg0 [y] (by decide +kernel)
  refine ⟨x, x ^ e, rfl, rfl, hy, h2, ?_, Rg.y_conj h0 hp2 hP.hm.1 hy h2 (by
    rcases h.cs with h | h | h
    · exact .inl h
    · exact .inr (.inl h.2)
    · exact .inr (.inr h.2))⟩
  rw [hP.hn, Nat.mul_comm, Rg.pow_mul, h2]
theorem Tri.whole {n e m : Nat} {t : Nat × Nat} (hp : Mr.Pr p) (hP : Par p n e m) (h : Tri p n e m t) : Dv p (litF (tri p e t)) (litF (wholeL n)) := by
  obtain ⟨x, y, h1, _, _, _, h5, _⟩ := h.facts hp hP
  have he1 := hP.e1
  have hn : 1 ≤ n := by
    rw [hP.hn]
    have := hP.hm.1
    exact Nat.le_trans (by omega : 1 ≤ 2 * m) (Nat.le_mul_of_pos_right _ he1)
  have hF : litF (wholeL n) = wholeF n := litF_toL fun j hj => by unfold wholeF; rw [if_neg (by omega), if_neg (by omega)]
  rw [hF]
  refine dv_fv (hp := hp.pos) (n := n + 1) (fun j hj => by unfold wholeF; rw [if_neg (by omega), if_neg (by omega)]) ?_
  rw [whole_fv hn, h1, h5]
  exact rg0 ([] : List (KR p hp.pos (litF (tri p e t)))) (by decide +kernel)
/-- the character -/
theorem Tri.chr {n e m : Nat} {t : Nat × Nat} (hp : Mr.Pr p) (h3 : 3 ≤ p) (hP : Par p n e m) (h : Tri p n e m t) (c : Nat) :
    Rg.lprod ((List.range (2 * e)).map fun j => lv p hp.pos (litF (tri p e t)) [c, 1] ^ (p ^ j)) ^ ((p - 1) / 2) = ((kpV p e (tri p e t) c : Nat) : KR p hp.pos (litF (tri p e t))) := by
  obtain ⟨x, y, h1, h2, h4, h5, h6, h7⟩ := h.facts hp hP
  have he1 := hP.e1
  have h0 : ((p : Nat) : KR p hp.pos (litF (tri p e t))) = 0 := KR.p0
  subst h2
  have hen : e ∣ n := ⟨2 * m, by rw [hP.hn, Nat.mul_comm]⟩
  rw [lin_fv, h1, Rg.norm_tri hp h0 (pr_odd hp h3) hP.he hen h6 hP.hperm h4 h7]
  unfold kpV
  rw [Rg.cast_mod h0, Rg.cast_pow, Rg.cast_mod h0]
  congr 1
  have hp2 := hp.1
  have l0 : litF (tri p e t) 0 = (p - t.2) % p := by
    rw [tri_litF hp2 he1]
    unfold triF
    rw [if_neg (by omega), if_neg (by omega), if_pos rfl]
  have le : litF (tri p e t) e = (p - t.1) % p := by
    rw [tri_litF hp2 he1]
    unfold triF
    rw [if_neg (by omega), if_pos rfl]
  have hA : ((kpA p e (tri p e t) : Nat) : KR p hp.pos (litF (tri p e t))) = if e = 1 then (t.1 : KR p hp.pos (litF (tri p e t))) else -(t.1 : KR p hp.pos (litF (tri p e t))) := by
    have hc : (((p - t.1) % p : Nat) : KR p hp.pos (litF (tri p e t))) = -(t.1 : KR p hp.pos (litF (tri p e t))) := by rw [Rg.cast_mod h0, Rg.cast_sub h0 (Nat.le_of_lt h.lt1)]
    unfold kpA
    by_cases h8 : e = 1
    · rw [if_pos h8, if_pos h8, le, Rg.cast_sub h0 (Nat.le_of_lt (Nat.mod_lt _ hp.pos)), hc]
      generalize (t.1 : KR p hp.pos (litF (tri p e t))) = T
      exact rg0 [T] (by decide +kernel)
    · rw [if_neg h8, if_neg h8, le, hc]
  rw [Rg.cast_add, Rg.cast_add, Rg.cast_mul, hA, l0, Rg.cast_mod h0, Rg.cast_sub h0 (Nat.le_of_lt h.lt2), Rg.cast_pow, Rg.cast_pow, Nat.mul_comm 2 e, Rg.pow_mul]
  generalize (if e = 1 then (t.1 : KR p hp.pos (litF (tri p e t))) else -(t.1 : KR p hp.pos (litF (tri p e t)))) = T
  generalize (t.2 : KR p hp.pos (litF (tri p e t))) = D
  generalize (c : KR p hp.pos (litF (tri p e t))) ^ e = C
  exact rg0 [T, D, C] (by decide +kernel)
theorem unit_sub {hp : Mr.Pr p} {φ : Nat → Nat} {a b : Nat} (ha : a < p) (hb : b < p) (h : a ≠ b) : ∃ w : KR p hp.pos φ, ((a : KR p hp.pos φ) - (b : KR p hp.pos φ)) * w = 1 := by
  have h0 : ((p : Nat) : KR p hp.pos φ) = 0 := KR.p0
  have hp2 := hp.1
  have hnd : ¬ p ∣ a + (p - b) := fun hd => by
    have e1 := Nat.mod_eq_zero_of_dvd hd
    rcases Nat.lt_or_ge a b with h2 | h2
    · rw [Nat.mod_eq_of_lt (by omega)] at e1; omega
    · rw [show a + (p - b) = a - b + p by omega, Nat.add_mod_right, Nat.mod_eq_of_lt (by omega)] at e1; omega
  have hfl := Mr.flt hp hnd
  refine ⟨(((a + (p - b)) ^ (p - 2) : Nat) : KR p hp.pos φ), ?_⟩
  have e2 : (a : KR p hp.pos φ) - (b : KR p hp.pos φ) = ((a + (p - b) : Nat) : KR p hp.pos φ) := by
    rw [Rg.cast_add, Rg.cast_sub h0 (Nat.le_of_lt hb)]
    generalize (a : KR p hp.pos φ) = A
    generalize (b : KR p hp.pos φ) = B
    exact rg0 [A, B] (by decide +kernel)
  rw [e2, ← Rg.cast_mul, Nat.mul_comm, ← Nat.pow_succ, show (p - 2).succ = p - 1 by omega, ← Rg.cast_mod h0, hfl, Rg.cast_mod h0, Rg.cast_one]
theorem Tri.cop {n e m : Nat} {t u : Nat × Nat} (hp : Mr.Pr p) (h3 : 3 ≤ p) (hP : Par p n e m) (h : Tri p n e m t) (k : Tri p n e m u) (hne : tri p e t ≠ tri p e u) : Un p hp.pos (tri p e t) (tri p e u) := by
  obtain ⟨x, y, h1, h2, h4, h5, h6, h7⟩ := h.facts hp hP
  have he1 := hP.e1
  have hp2 := hp.1
  have hm1 := hP.hm.1
  have h0 : ((p : Nat) : KR p hp.pos (litF (tri p e t))) = 0 := KR.p0
  have hv : lv p hp.pos (litF (tri p e t)) (tri p e u) = y * y - (u.1 : KR p hp.pos (litF (tri p e t))) * y - (u.2 : KR p hp.pos (litF (tri p e t))) := by
    show fv p hp.pos (litF (tri p e t)) (litF (tri p e u)) = _
    rw [tri_litF (t := u) hp2 he1, tri_fv he1 (Nat.le_of_lt k.lt1) (Nat.le_of_lt k.lt2), h1, Nat.mul_comm 2 e, Rg.pow_mul, h2]
    congr 2
    exact rg0 [y] (by decide +kernel)
  unfold Un
  rw [hv]
  have hcase : (t.1 = u.1 ∧ t.2 ≠ u.2) ∨ (t.2 = u.2 ∧ t.1 ≠ u.1 ∧ (t.2 = 1 ∨ t.2 + 1 = p)) := by
    have hd : ¬ (t.1 = u.1 ∧ t.2 = u.2) := fun hh => hne (by rw [show t = u from Prod.ext hh.1 hh.2])
    have c1 := h.cs
    have c2 := k.cs
    generalize p % (4 * m) = r at c1 c2
    omega
  rcases hcase with ⟨e1, e2⟩ | ⟨e1, e2, e3⟩
  · obtain ⟨w, hw⟩ := unit_sub (hp := hp) (φ := litF (tri p e t)) h.lt2 k.lt2 e2
    refine ⟨w, ?_⟩
    rw [← e1]
    generalize (t.1 : KR p hp.pos (litF (tri p e t))) = T at h4 ⊢
    generalize (t.2 : KR p hp.pos (litF (tri p e t))) = D at h4 hw
    generalize (u.2 : KR p hp.pos (litF (tri p e t))) = D' at hw ⊢
    exact rg2 [y, T, D, D', w] h4 (w) hw (1) (by decide +kernel)
  · obtain ⟨w, hw⟩ := unit_sub (hp := hp) (φ := litF (tri p e t)) h.lt1 k.lt1 e2
    have hdd : (t.2 : KR p hp.pos (litF (tri p e t))) * (t.2 : KR p hp.pos (litF (tri p e t))) = 1 := by
      rcases e3 with e3 | e3
      · rw [e3, Rg.cast_one]
        exact rg0 ([] : List (KR p hp.pos (litF (tri p e t)))) (by decide +kernel)
      · have h9 : ((t.2 + 1 : Nat) : KR p hp.pos (litF (tri p e t))) = 0 := by rw [e3]; exact h0
        rw [Rg.cast_add, Rg.cast_one] at h9
        generalize (t.2 : KR p hp.pos (litF (tri p e t))) = D at h9 ⊢
        exact rg1 [D] h9 (D - 1) (by decide +kernel)
    refine ⟨(y - (t.1 : KR p hp.pos (litF (tri p e t)))) * (t.2 : KR p hp.pos (litF (tri p e t))) * w, ?_⟩
    rw [← e1]
    generalize (t.1 : KR p hp.pos (litF (tri p e t))) = T at h4 hw ⊢
    generalize (t.2 : KR p hp.pos (litF (tri p e t))) = D at h4 hdd ⊢
    generalize (u.1 : KR p hp.pos (litF (tri p e t))) = T' at hw ⊢
    exact rg3 [y, T, D, T', w] h4 ((y - T) * D * w + (T - T') * w * D) hw (D * D) hdd (1) (by decide +kernel)
end
end Go.Proofs.Ytkklacgoeopekaa
