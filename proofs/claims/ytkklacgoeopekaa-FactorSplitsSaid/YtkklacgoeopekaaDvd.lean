/- Plain algebra of divisibility of polynomials modulo m; what Euclid's rule yields. No program in sight. -/
import Derived.Test.YtkklacgoeopekaaGcdPlain
import Derived.Test.YtkklacgoeopekaaAlg
namespace Go.Proofs.Ytkklacgoeopekaa

theorem sumN_at {f : Nat → Nat} {s : Nat} : ∀ n, s < n → (∀ i, i < n → i ≠ s → f i = 0) → sumN f n = f s
  | 0, h, _ => absurd h (Nat.not_lt_zero s)
  | n + 1, h, hz => by
    rcases Nat.lt_or_ge s n with h1 | h1
    · rw [sumN, sumN_at n h1 (fun i hi hne => hz i (by omega) hne), hz n (by omega) (by omega), Nat.add_zero]
    · obtain rfl : s = n := by omega
      rw [sumN, sumN_zero s (fun i hi => hz i (by omega) (by omega)), Nat.zero_add]

theorem conv_monoF (c s : Nat) (b : Nat → Nat) (j : Nat) : conv (monoF c s) b j = if s ≤ j then c * b (j - s) else 0 := by
  unfold conv
  split
  · rw [sumN_at (s := s) (j + 1) (by omega) fun i _ hne => by unfold monoF; rw [if_neg hne, Nat.zero_mul]]
    unfold monoF
    rw [if_pos rfl]
  · exact sumN_zero _ fun i hi => by unfold monoF; rw [if_neg (by omega), Nat.zero_mul]
theorem conv_oneF (c : Nat) (b : Nat → Nat) (j : Nat) : conv (oneF c) b j = c * b j := by
  have h := conv_monoF c 0 b j
  rw [if_pos (Nat.zero_le _), Nat.sub_zero] at h
  exact h
theorem conv_zero_left (b : Nat → Nat) (j : Nat) : conv (fun _ => 0) b j = 0 := sumN_zero _ fun _ _ => Nat.zero_mul _
theorem conv_smul (c : Nat) (a b : Nat → Nat) (j : Nat) : conv (fun i => c * a i) b j = c * conv a b j := by
  unfold conv
  rw [← sumN_mul_left]
  exact sumN_congr _ fun i _ => Nat.mul_assoc _ _ _
theorem conv_ext {n nb : Nat} {a b : Nat → Nat} (ha : ∀ j, n ≤ j → a j = 0) (hb : ∀ j, nb ≤ j → b j = 0) (j : Nat) (hj : n + nb ≤ j + 1) : conv a b j = 0 := by
  refine sumN_zero _ fun t ht => ?_
  rcases Nat.lt_or_ge t n with h | h
  · rw [hb (j - t) (by omega), Nat.mul_zero]
  · rw [ha t h, Nat.zero_mul]

/-- equal modulo m -/
def Em (m : Nat) (f g : Nat → Nat) : Prop := ∀ j, f j % m = g j % m
/-- b divides a modulo m -/
def Dv (m : Nat) (b a : Nat → Nat) : Prop := ∃ (q : Nat → Nat) (N : Nat), (∀ j, N ≤ j → q j = 0) ∧ ∀ j, a j % m = conv q b j % m

section
variable {m : Nat} {a b c d r : Nat → Nat}
theorem oneF_out {x j : Nat} (h : 1 ≤ j) : oneF x j = 0 := if_neg (by omega)
theorem Dv.refl (m : Nat) (a : Nat → Nat) : Dv m a a := ⟨oneF 1, 1, fun _ h => oneF_out h, fun j => by rw [conv_oneF, Nat.one_mul]⟩
theorem Dv.zero (m : Nat) (b : Nat → Nat) : Dv m b (fun _ => 0) := ⟨fun _ => 0, 0, fun _ _ => rfl, fun j => by rw [conv_zero_left]⟩
theorem Dv.congr (h : Dv m b a) (e : Em m a c) : Dv m b c := by
  obtain ⟨q, N, h1, h2⟩ := h
  exact ⟨q, N, h1, fun j => (e j).symm.trans (h2 j)⟩
theorem Dv.add (h : Dv m b a) (h' : Dv m b c) : Dv m b (fun j => a j + c j) := by
  obtain ⟨q, N, h1, h2⟩ := h
  obtain ⟨q', N', h3, h4⟩ := h'
  refine ⟨fun j => q j + q' j, max N N', fun j hj => by show q j + q' j = 0; rw [h1 j (by omega), h3 j (by omega)], fun j => ?_⟩
  rw [conv_add, Nat.add_mod, h2, h4, ← Nat.add_mod]
theorem Dv.mul (h : Dv m b a) {q : Nat → Nat} {N : Nat} (hq : ∀ j, N ≤ j → q j = 0) : Dv m b (conv q a) := by
  obtain ⟨q', N', h1, h2⟩ := h
  refine ⟨conv q q', N + N', fun j hj => conv_ext hq h1 j (by omega), fun j => ?_⟩
  rw [conv_assoc]
  exact conv_mod (fun _ => rfl) h2 j
theorem Dv.trans (h : Dv m c b) (h' : Dv m b a) : Dv m c a := by
  obtain ⟨q, N, h1, h2⟩ := h'
  exact (h.mul h1).congr fun j => (h2 j).symm

/-- the rest is the dividend and a multiple of the divisor -/
theorem dR_eq {nb iv : Nat} {b : Nat → Nat} : ∀ i (r : Nat → Nat), ∃ q : Nat → Nat, (∀ j, i ≤ j → q j = 0) ∧ ∀ j, dR m nb b iv i r j % m = (r j + conv q b j) % m
  | 0, r => ⟨fun _ => 0, fun _ _ => rfl, fun j => by rw [conv_zero_left, Nat.add_zero, dR]⟩
  | i + 1, r => by
    obtain ⟨q, h1, h2⟩ := dR_eq (nb := nb) (iv := iv) (b := b) i (dStep m nb b iv i r)
    refine ⟨fun j => monoF (m - dC m nb iv i r) i j + q j, fun j hj => ?_, fun j => ?_⟩
    · show monoF _ i j + q j = 0
      rw [h1 j (by omega), Nat.add_zero]
      unfold monoF
      exact if_neg (by omega)
    · rw [dR, h2 j, conv_add, conv_monoF, ← Nat.add_assoc]
      have e : dStep m nb b iv i r j % m = (r j + if i ≤ j then (m - dC m nb iv i r) * b (j - i) else 0) % m := by
        unfold dStep
        split
        · rw [Nat.mod_mod]
        · rw [Nat.add_zero]
      rw [Nat.add_mod, e, ← Nat.add_mod]

/-- what divides dividend and divisor divides the rest, and what divides divisor and rest divides the dividend -/
theorem Dv.rest {nb iv i : Nat} (ha : Dv m c a) (hb : Dv m c b) : Dv m c (dR m nb b iv i a) := by
  obtain ⟨q, h1, h2⟩ := dR_eq (m := m) (nb := nb) (iv := iv) (b := b) i a
  exact (ha.add (hb.mul h1)).congr fun j => (h2 j).symm
theorem Dv.back {nb iv i : Nat} (hm : 0 < m) (hr : Dv m c (dR m nb b iv i a)) (hb : Dv m c b) : Dv m c a := by
  obtain ⟨q, h1, h2⟩ := dR_eq (m := m) (nb := nb) (iv := iv) (b := b) i a
  have hq : ∀ j, i ≤ j → (fun j => (m - 1) * q j) j = 0 := fun j hj => by show (m - 1) * q j = 0; rw [h1 j hj, Nat.mul_zero]
  refine (hr.add (hb.mul hq)).congr fun j => ?_
  show (dR m nb b iv i a j + conv (fun j => (m - 1) * q j) b j) % m = a j % m
  rw [Nat.add_mod, h2 j, ← Nat.add_mod, conv_smul, Nat.add_assoc, show conv q b j + (m - 1) * conv q b j = m * conv q b j from by
    rw [Nat.sub_mul, Nat.one_mul, Nat.add_sub_cancel']
    exact Nat.le_mul_of_pos_left _ hm, Nat.add_mul_mod_self_left]

/-- a short multiple of a polynomial whose leading element is a unit is 0 -/
theorem dv_small {nb iv : Nat} (hb : ∀ j, nb ≤ j → b j = 0) (hnb : 0 < nb) (hiv : iv * b (nb - 1) % m = 1 % m) (h : Dv m b r) (hr : ∀ j, nb - 1 ≤ j → r j % m = 0) : ∀ j, r j % m = 0 := by
  obtain ⟨q, N, h1, h2⟩ := h
  have key : ∀ k t, N ≤ t + k → q t % m = 0 := by
    intro k
    induction k with
    | zero => intro t ht; rw [h1 t (by omega), Nat.zero_mod]
    | succ k ih =>
      intro t ht
      rcases Nat.lt_or_ge (t + k) N with hlt | hge
      · have e1 : conv q b (t + nb - 1) % m = q t * b (nb - 1) % m := by
          unfold conv
          have e2 : sumN (fun s => q s * b (t + nb - 1 - s)) (t + nb - 1 + 1) % m = sumN (fun s => if s = t then q t * b (nb - 1) else 0) (t + nb - 1 + 1) % m := by
            refine sumN_mod _ fun s hs => ?_
            rcases Nat.lt_trichotomy s t with h | h | h
            · rw [if_neg (by omega), hb _ (by omega), Nat.mul_zero]
            · subst h
              rw [if_pos rfl, show s + nb - 1 - s = nb - 1 from by omega]
            · rw [if_neg (by omega), Nat.mul_mod, ih s (by omega), Nat.zero_mul]
          rw [e2, sumN_at (s := t) _ (by omega) fun i _ hne => if_neg hne, if_pos rfl]
        rw [← h2, hr _ (by omega)] at e1
        have e3 : q t * (iv * b (nb - 1)) % m = 0 := by
          rw [Nat.mul_left_comm, Nat.mul_mod, ← e1, Nat.mul_zero, Nat.zero_mod]
        rw [Nat.mul_mod, hiv, ← Nat.mul_mod, Nat.mul_one] at e3
        exact e3
      · exact ih t hge
  intro j
  rw [h2 j, conv_mod (a' := fun _ => 0) (b' := b) (fun t => by rw [key N t (by omega), Nat.zero_mod]) (fun _ => rfl), conv_zero_left, Nat.zero_mod]

theorem gcdP_dv (hp : Mr.Pr m) : ∀ k (x y : Nat × (Nat → Nat)), Res m x → Res m y → y.1 < k → (Dv m (gcdP m k x y).2 x.2 ∧ Dv m (gcdP m k x y).2 y.2) ∧ (∀ c, Dv m c x.2 → Dv m c y.2 → Dv m c (gcdP m k x y).2) ∧ Res m (gcdP m k x y)
  | 0, _, _, _, _, h => absurd h (Nat.not_lt_zero _)
  | k + 1, x, y, hx, hy, hk => by
    by_cases h0 : y.1 = 0
    · rw [gcdP_zero h0]
      have e : y.2 = fun _ => 0 := funext fun j => hy.2.1 j (by omega)
      exact ⟨⟨Dv.refl _ _, by rw [e]; exact Dv.zero _ _⟩, fun c h _ => h, hx⟩
    · rw [gcdP_succ h0]
      obtain ⟨ny, fy⟩ := y
      obtain ⟨iv, hu, hiv, hinv⟩ := unit_prime hp hy (Nat.pos_of_ne_zero h0)
      obtain ⟨r1, r2, r3⟩ := res_rest (iv := iv) (b := fy) (nb := ny) hx hp.pos (Nat.pos_of_ne_zero h0) hinv hy.2.1
      simp only [hu]
      have hk' : ny < k + 1 := hk
      obtain ⟨⟨g1, g2⟩, g3, g4⟩ := gcdP_dv hp k (ny, fy) (restP m ny fy iv x) hy r1 (by omega)
      exact ⟨⟨Dv.back (i := dL x.1 ny) (iv := iv) (nb := ny) hp.pos g2 g1, g1⟩, fun c h1 h2 => g3 c h2 (Dv.rest h1 h2), g4⟩

theorem gcdP_le' (hp : Mr.Pr m) : ∀ k (x y : Nat × (Nat → Nat)), Res m x → Res m y → x.1 ≤ 256 → y.1 ≤ 256 → (gcdP m k x y).1 ≤ 256
  | 0, _, _, _, _, h, _ => h
  | k + 1, x, y, hx, hy, h1, h2 => by
    by_cases h0 : y.1 = 0
    · rw [gcdP_zero h0]; exact h1
    · rw [gcdP_succ h0]
      obtain ⟨ny, fy⟩ := y
      obtain ⟨iv, hu, hiv, hinv⟩ := unit_prime hp hy (Nat.pos_of_ne_zero h0)
      obtain ⟨r1, r2, r3⟩ := res_rest (iv := iv) (b := fy) (nb := ny) hx hp.pos (Nat.pos_of_ne_zero h0) hinv hy.2.1
      show (gcdP m k (ny, fy) (restP m ny fy (unitF m ny fy).1 x)).1 ≤ 256
      rw [hu]
      exact gcdP_le' hp k _ _ hy r1 h2 (Nat.le_trans r3 h1)

/-- the result of Gcd: it divides both, what divides both divides it, and its leading element is 1 -/
theorem gcdF_spec {n nb : Nat} (hp : Mr.Pr m) (ha : Res m (n, a)) (hb : Res m (nb, b)) (hn : n ≤ 256) (hnb : nb ≤ 256) :
    ∃ (k : Nat) (d : Nat → Nat), gcdF m n a nb b = (k, d) ∧ k ≤ 256 ∧ (∀ j, d j < m) ∧ (∀ j, k ≤ j → d j = 0) ∧ (0 < k → d (k - 1) = 1) ∧ Dv m d a ∧ Dv m d b ∧ ∀ c, Dv m c a → Dv m c b → Dv m c d := by
  obtain ⟨⟨g1, g2⟩, g3, g4⟩ := gcdP_dv hp 301 (n, a) (nb, b) ha hb (show nb < 301 by omega)
  have g5 := gcdP_le' hp 301 (n, a) (nb, b) ha hb hn hnb
  unfold gcdF
  generalize gcdP m 301 (n, a) (nb, b) = z at *
  obtain ⟨k, f⟩ := z
  by_cases h0 : k = 0
  · subst h0
    have e : f = fun _ => 0 := funext fun j => g4.2.1 j (Nat.zero_le _)
    refine ⟨0, fun _ => 0, rfl, Nat.zero_le _, fun _ => hp.pos, fun _ _ => rfl, fun h => absurd h (Nat.lt_irrefl 0), ?_⟩
    subst e
    exact ⟨g1, g2, g3⟩
  · obtain ⟨iv, hu, hiv, hinv⟩ := unit_prime hp g4 (Nat.pos_of_ne_zero h0)
    have e1 : ∀ j, mulF m f (oneF iv) j = iv * f j % m := fun j => by rw [mulF_conv, conv_comm, conv_oneF]
    have h1 : (1 : Nat) % m = 1 := Nat.mod_eq_of_lt hp.1
    have e2 : tl (mulF m f (oneF iv)) (k + 1) = k := by
      refine tl_unique (Nat.le_succ k) (fun j hj _ => ?_) fun hk => ?_
      · rw [e1, show f j = 0 from g4.2.1 j hj, Nat.mul_zero, Nat.zero_mod]
      · rw [e1, hinv, h1]
        exact Nat.one_ne_zero
    refine ⟨k, mulF m f (oneF iv), ?_, g5, mulF_lt hp.pos _ _, fun j hj => ?_, fun _ => ?_, ?_⟩
    · show (if k = 0 then _ else prodP m (k, f) (1, oneF (unitF m k f).1)) = _
      rw [if_neg h0, hu]
      show (tl (mulF m f (oneF iv)) (k + 1), mulF m f (oneF iv)) = _
      rw [e2]
    · rw [e1, show f j = 0 from g4.2.1 j hj, Nat.mul_zero, Nat.zero_mod]
    · rw [e1, hinv, h1]
    · have hd : Dv m (mulF m f (oneF iv)) f := by
        refine ⟨oneF (f (k - 1)), 1, fun _ h => oneF_out h, fun j => ?_⟩
        rw [conv_oneF, e1, Nat.mul_mod, Nat.mod_mod, ← Nat.mul_mod, ← Nat.mul_assoc, Nat.mul_comm (f (k - 1)), Nat.mul_mod, hinv, ← Nat.mul_mod, Nat.one_mul]
      exact ⟨hd.trans g1, hd.trans g2, fun c h1 h2 => ((g3 c h1 h2).mul (q := oneF iv) (N := 1) fun _ h => oneF_out h).congr fun j => by rw [e1, Nat.mod_mod, conv_oneF]⟩

theorem Dv.of_zero (h : Dv m (fun _ => 0) a) (ha : ∀ j, a j < m) : ∀ j, a j = 0 := by
  obtain ⟨q, N, _, h2⟩ := h
  intro j
  have h3 := h2 j
  rw [conv_comm, conv_zero_left, Nat.zero_mod, Nat.mod_eq_of_lt (ha j)] at h3
  exact h3
theorem Dv.prod {n : Nat} (ha : ∀ j, n ≤ j → a j = 0) : Dv m c (mulF m a c) := ⟨a, n, ha, fun j => by rw [mulF_conv, Nat.mod_mod]⟩
/-- modulo a prime a product of nonzero polynomials is not zero -/
theorem mulF_ne {n nc : Nat} (hp : Mr.Pr m) (ha : ∀ j, n ≤ j → a j = 0) (hc : ∀ j, nc ≤ j → c j = 0) (hn : 0 < n) (hnc : 0 < nc) (h1 : a (n - 1) ≠ 0) (h2 : c (nc - 1) ≠ 0) (h3 : a (n - 1) < m) (h4 : c (nc - 1) < m) : mulF m a c (n + nc - 2) ≠ 0 := by
  rw [mulF_conv]
  unfold conv
  rw [sumN_at (s := n - 1) _ (by omega) fun i hi hne => by
    rcases Nat.lt_or_ge i n with h | h
    · rw [hc _ (by omega), Nat.mul_zero]
    · rw [ha i h, Nat.zero_mul], show n + nc - 2 - (n - 1) = nc - 1 from by omega]
  intro h0
  rcases hp.dvd_mul (Nat.dvd_of_mod_eq_zero h0) with h | h
  · have := Nat.le_of_dvd (by omega) h; omega
  · have := Nat.le_of_dvd (by omega) h; omega
end
end Go.Proofs.Ytkklacgoeopekaa
