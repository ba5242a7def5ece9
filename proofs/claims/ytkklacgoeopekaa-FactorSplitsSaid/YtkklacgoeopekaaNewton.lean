/- Plain: interpolation modulo m: Newton's and Lagrange's steps, and that there is at most one such polynomial. No program in sight. -/
import Derived.Test.YtkklacgoeopekaaAlgVal
import Derived.Test.YtkklacgoeopekaaDvd
import Derived.Test.YtkklacgoeopekaaGcdPlain
namespace Go.Proofs.Ytkklacgoeopekaa

/-- a list of residues, told by its length and a function -/
def Rs (m n : Nat) (f : Nat → Nat) : Prop := (∀ j, f j < m) ∧ ∀ j, n ≤ j → f j = 0
def dif (m a b : Nat) : Nat := (a + m - b) % m
/-- no two of the places differ by a number that is no unit -/
def Apart (m n : Nat) (x : Nat → Nat) : Prop := ∀ i k, k < i → i < n → Nat.gcd m (dif m (x i) (x k)) = 1

theorem gcd_neg {m a b : Nat} (h : Nat.gcd m a = 1) (hab : (a + b) % m = 0) : Nat.gcd m b = 1 := by
  refine Nat.dvd_one.1 ?_
  rw [← h]
  refine Nat.dvd_gcd (Nat.gcd_dvd_left _ _) ?_
  have h1 : Nat.gcd m b ∣ a + b := Nat.dvd_trans (Nat.gcd_dvd_left m b) (Nat.dvd_of_mod_eq_zero hab)
  exact (Nat.dvd_add_iff_left (Nat.gcd_dvd_right m b)).2 h1
theorem dif_neg {m a b : Nat} (ha : a < m) (hb : b < m) : (dif m a b + dif m b a) % m = 0 := by
  unfold dif
  rw [← Nat.add_mod, show a + m - b + (b + m - a) = m + m from by omega, Nat.add_mod_right, Nat.mod_self]
theorem Apart.ne {m n i k : Nat} {x : Nat → Nat} (h : Apart m n x) (hx : ∀ j, j < n → x j < m) (hi : i < n) (hk : k < n) (hne : k ≠ i) : Nat.gcd m (dif m (x i) (x k)) = 1 := by
  rcases Nat.lt_or_ge k i with h1 | h1
  · exact h i k h1 hi
  · exact gcd_neg (h k i (by omega) hk) (dif_neg (hx k hk) (hx i hi))
theorem dif_self {m a : Nat} (_ha : a < m) : dif m a a = 0 := by
  unfold dif
  rw [Nat.add_sub_cancel_left, Nat.mod_self]

theorem val_len {m n k : Nat} {a : Nat → Nat} {x : Nat} (h1 : ∀ j, n ≤ j → a j = 0) (h2 : ∀ j, k ≤ j → a j = 0) : valF m n a x = valF m k a x := by
  rw [← val_more (N := max n k) h1 (by omega), val_more (n := k) h2 (by omega)]
theorem Rs.val {m n k : Nat} {a : Nat → Nat} {x : Nat} (h1 : Rs m n a) (h2 : Rs m k a) : valF m n a x = valF m k a x := val_len h1.2 h2.2
theorem Rs.tl {m n : Nat} {a : Nat → Nat} (h : Rs m n a) : Rs m (tl a n) a := ⟨h.1, fun j hj => by
  rcases Nat.lt_or_ge j n with h1 | h1
  · exact tl_zero a n j hj h1
  · exact h.2 j h1⟩
theorem Rs.more {m n k : Nat} {a : Nat → Nat} (h : Rs m n a) (hk : n ≤ k) : Rs m k a := ⟨h.1, fun j hj => h.2 j (by omega)⟩
theorem Rs.valtl {m n : Nat} {a : Nat → Nat} {x : Nat} (h : Rs m n a) : valF m (Go.Proofs.Ytkklacgoeopekaa.tl a n) a x = valF m n a x := h.tl.val h
theorem rs_nil {m : Nat} (hm : 0 < m) (n : Nat) : Rs m n (fun _ => 0) := ⟨fun _ => hm, fun _ _ => rfl⟩
theorem rs_one {m y : Nat} (hy : y < m) : Rs m 1 (oneF y) := ⟨fun j => by unfold oneF; split <;> omega, fun _ h => oneF_out h⟩
theorem val_nil (m n x : Nat) : valF m n (fun _ => 0) x = 0 := by
  unfold valF
  rw [sumN_zero n fun i _ => Nat.zero_mul _, Nat.zero_mod]
theorem val_one {m y x : Nat} (hy : y < m) : valF m 1 (oneF y) x = y := by
  unfold valF
  show (0 + y * x ^ 0) % m = y
  rw [Nat.pow_zero, Nat.mul_one, Nat.zero_add, Nat.mod_eq_of_lt hy]

/-- the linear polynomial that is 0 at x -/
def linF (m x : Nat) : Nat → Nat := litF [(m - x) % m, 1]
theorem rs_lin {m x : Nat} (hm : 2 ≤ m) : Rs m 2 (linF m x) := ⟨fun j => by
  match j with
  | 0 => exact Nat.mod_lt _ (by omega)
  | 1 => show 1 < m; omega
  | j + 2 => rw [show linF m x (j + 2) = 0 from litF_out (by show 2 ≤ j + 2; omega)]; omega, fun _ h => litF_out h⟩
theorem val_lin {m x t : Nat} (hx : x < m) : valF m 2 (linF m x) t = dif m t x := by
  unfold valF dif
  show (0 + (m - x) % m * t ^ 0 + 1 * t ^ 1) % m = _
  rw [Nat.pow_zero, Nat.pow_one, Nat.mul_one, Nat.one_mul, Nat.zero_add, Nat.mod_add_mod]
  congr 1
  omega

theorem rs_comb {m n nb c : Nat} {a b : Nat → Nat} (hm : 0 < m) (ha : Rs m n a) (hb : Rs m nb b) : Rs m (max n nb) (combF m a b c) :=
  ⟨fun _ => Nat.mod_lt _ hm, fun j hj => by unfold combF; rw [ha.2 j (by omega), hb.2 j (by omega), Nat.zero_mul, Nat.zero_mod]⟩
theorem val_comb {m n nb c x : Nat} {a b : Nat → Nat} (ha : Rs m n a) (hb : Rs m nb b) : valF m (max n nb) (combF m a b c) x = (valF m n a x + c * valF m nb b x) % m := by
  rw [← val_more (N := max n nb) ha.2 (by omega), ← val_more (N := max n nb) hb.2 (by omega)]
  unfold valF
  rw [Nat.add_mod, Nat.mul_mod, Nat.mod_mod, Nat.mod_mod, ← Nat.mul_mod, ← Nat.add_mod, ← sumN_mul_left, ← sumN_add]
  refine sumN_mod _ fun i _ => ?_
  unfold combF
  rw [Nat.mod_mul_mod, Nat.add_mul, Nat.mul_comm (b i) c, Nat.mul_assoc]
theorem rs_mul {m n nb : Nat} {a b : Nat → Nat} (hm : 0 < m) (ha : Rs m n a) (hb : Rs m nb b) : Rs m (n + nb) (mulF m a b) := ⟨mulF_lt hm a b, fun j hj => mulF_ext ha.2 hb.2 j (by omega)⟩
theorem val_prod {m n nb x : Nat} {a b : Nat → Nat} (ha : Rs m n a) (hb : Rs m nb b) : valF m (n + nb) (mulF m a b) x = valF m n a x * valF m nb b x % m := val_mul ha.2 hb.2 (Nat.le_refl _)
/-- minus minus is plus -/
theorem sub_sub {m n nb : Nat} {a b : Nat → Nat} (ha : Rs m n a) (hb : Rs m nb b) : subF m a (subF m (fun _ => 0) b) = addF m a b := funext fun j => by
  unfold subF addF
  have h1 := ha.1 j
  have h2 := hb.1 j
  rcases Nat.eq_zero_or_pos (b j) with h | h
  · rw [h, Nat.zero_add, Nat.sub_zero, Nat.mod_self, Nat.sub_zero, Nat.add_mod_right, Nat.add_zero]
  · rw [Nat.mod_eq_of_lt (show 0 + m - b j < m by omega), show a j + m - (0 + m - b j) = a j + b j from by omega]
theorem rs_add {m n nb : Nat} {a b : Nat → Nat} (hm : 0 < m) (ha : Rs m n a) (hb : Rs m nb b) : Rs m (max n nb) (addF m a b) :=
  ⟨fun _ => Nat.mod_lt _ hm, fun j hj => by unfold addF; rw [ha.2 j (by omega), hb.2 j (by omega), Nat.zero_mod]⟩
theorem rs_neg {m n : Nat} {b : Nat → Nat} (hm : 0 < m) (hb : Rs m n b) : Rs m n (subF m (fun _ => 0) b) :=
  ⟨fun _ => Nat.mod_lt _ hm, fun j hj => by unfold subF; rw [hb.2 j hj, Nat.sub_zero, Nat.zero_add, Nat.mod_self]⟩
theorem val_sum {m n nb x : Nat} {a b : Nat → Nat} (ha : Rs m n a) (hb : Rs m nb b) : valF m (max n nb) (addF m a b) x = (valF m n a x + valF m nb b x) % m := by
  rw [val_add, val_more (n := n) ha.2 (by omega), val_more (n := nb) hb.2 (by omega)]

/-! ### Newton's rule -/
structure Newt (m n i : Nat) (x y : Nat → Nat) (no : Nat) (fo : Nat → Nat) (nb : Nat) (fb : Nat → Nat) : Prop where
  ro : Rs m no fo
  rb : Rs m nb fb
  lo : no ≤ i
  lb : nb ≤ i + 1
  to : tl fo no = no
  vo : ∀ t, t < i → valF m no fo (x t) = y t
  vz : ∀ t, t < i → valF m nb fb (x t) = 0
  vu : ∀ t, i ≤ t → t < n → Nat.gcd m (valF m nb fb (x t)) = 1

theorem Newt.start {m n : Nat} {x y : Nat → Nat} (hm : 2 ≤ m) : Newt m n 0 x y 0 (fun _ => 0) 1 (oneF 1) where
  ro := rs_nil (by omega) 0
  rb := rs_one (by omega)
  lo := Nat.le_refl _
  lb := Nat.le_refl _
  to := rfl
  vo := fun t h => absurd h (Nat.not_lt_zero t)
  vz := fun t h => absurd h (Nat.not_lt_zero t)
  vu := fun t _ _ => by rw [val_one (by omega), Nat.gcd_one_right]

theorem gcd_mul_mod {m a b : Nat} (ha : Nat.gcd m a = 1) (hb : Nat.gcd m b = 1) : Nat.gcd m (a * b % m) = 1 := by
  rw [Nat.gcd_comm, ← Nat.gcd_rec]
  exact Nat.Coprime.mul_right ha hb

theorem Newt.step {m n i no nb inv c : Nat} {x y fo fb : Nat → Nat} (h : Newt m n i x y no fo nb fb) (hm : 2 ≤ m) (hx : ∀ j, j < n → x j < m) (hy : ∀ j, j < n → y j < m) (hap : Apart m n x) (hi : i < n)
    (hinv : inv * valF m nb fb (x i) % m = 1 % m) (hc : c = (y i + m - valF m no fo (x i)) % m * inv % m) :
    Newt m n (i + 1) x y (tl (combF m fo fb c) (max no nb)) (combF m fo fb c) (tl (mulF m fb (linF m (x i))) (nb + 2)) (mulF m fb (linF m (x i))) := by
  have hm0 : 0 < m := by omega
  have r1 := rs_comb (c := c) hm0 h.ro h.rb
  have r2 := rs_mul hm0 h.rb (rs_lin (x := x i) hm)
  have lb' : tl (mulF m fb (linF m (x i))) (nb + 2) ≤ i + 1 + 1 := by
    rcases Nat.lt_or_ge (i + 1 + 1) (tl (mulF m fb (linF m (x i))) (nb + 2)) with hlt | hge
    · have h1 := tl_last (mulF m fb (linF m (x i))) (nb + 2) (by omega)
      exact absurd (mulF_ext (n := nb) (nb := 2) h.rb.2 (rs_lin (x := x i) hm).2 _ (by have := h.lb; omega)) h1
    · exact hge
  exact {
    ro := r1.tl
    rb := r2.tl
    lo := by have := tl_le (combF m fo fb c) (max no nb); have := h.lo; have := h.lb; omega
    lb := lb'
    to := tl_tl _ _
    vo := fun t ht => by
      rw [r1.valtl, val_comb h.ro h.rb]
      rcases Nat.lt_or_ge t i with h1 | h1
      · rw [h.vo t h1, h.vz t h1, Nat.mul_zero, Nat.add_zero, Nat.mod_eq_of_lt (hy t (by omega))]
      · obtain rfl : t = i := by omega
        have hv : valF m no fo (x t) < m := Nat.mod_lt _ hm0
        have e1 : c * valF m nb fb (x t) % m = (y t + m - valF m no fo (x t)) % m := by
          rw [hc, Nat.mod_mul_mod, Nat.mul_assoc, Nat.mul_mod, hinv, ← Nat.mul_mod, Nat.mul_one, Nat.mod_mod]
        rw [Nat.add_mod, e1, ← Nat.add_mod, show valF m no fo (x t) + (y t + m - valF m no fo (x t)) = y t + m from by omega, Nat.add_mod_right, Nat.mod_eq_of_lt (hy t hi)]
    vz := fun t ht => by
      rw [r2.valtl, val_prod h.rb (rs_lin hm), val_lin (hx i hi)]
      rcases Nat.lt_or_ge t i with h1 | h1
      · rw [h.vz t h1, Nat.zero_mul, Nat.zero_mod]
      · obtain rfl : t = i := by omega
        rw [dif_self (hx t hi), Nat.mul_zero, Nat.zero_mod]
    vu := fun t h1 h2 => by
      rw [r2.valtl, val_prod h.rb (rs_lin hm), val_lin (hx i hi)]
      exact gcd_mul_mod (h.vu t (by omega) h2) (hap t i (by omega) h2) }

/-! ### Lagrange's formula -/
structure Lagr (m n i k : Nat) (x y : Nat → Nat) (np : Nat) (fp : Nat → Nat) : Prop where
  rs : Rs m np fp
  le : np ≤ if i < k then k else k + 1
  hit : valF m np fp (x i) = y i
  miss : ∀ t, t < k → t ≠ i → valF m np fp (x t) = 0

theorem Lagr.start {m n i : Nat} {x y : Nat → Nat} (hy : y i < m) : Lagr m n i 0 x y 1 (oneF (y i)) where
  rs := rs_one hy
  le := Nat.le_refl _
  hit := val_one hy
  miss := fun t h => absurd h (Nat.not_lt_zero t)
theorem Lagr.skip {m n i np : Nat} {x y fp : Nat → Nat} (h : Lagr m n i i x y np fp) : Lagr m n i (i + 1) x y np fp where
  rs := h.rs
  le := by have := h.le; rw [if_neg (Nat.lt_irrefl i)] at this; rw [if_pos (Nat.lt_succ_self i)]; exact this
  hit := h.hit
  miss := fun t h1 h2 => h.miss t (by omega) h2
theorem Lagr.step {m n i k np inv : Nat} {x y fp : Nat → Nat} (h : Lagr m n i k x y np fp) (hm : 2 ≤ m) (hx : ∀ j, j < n → x j < m) (hy : ∀ j, j < n → y j < m) (hi : i < n) (hk : k < n) (hne : k ≠ i) (hlt : inv < m)
    (hinv : inv * dif m (x i) (x k) % m = 1 % m) :
    Lagr m n i (k + 1) x y (tl (mulF m (mulF m fp (linF m (x k))) (oneF inv)) (tl (mulF m fp (linF m (x k))) (tl fp np + 2) + 1)) (mulF m (mulF m fp (linF m (x k))) (oneF inv)) := by
  have hm0 : 0 < m := by omega
  have r0 := h.rs.tl
  have r1 := rs_mul hm0 r0 (rs_lin (x := x k) hm)
  have r2 := rs_mul hm0 r1.tl (rs_one hlt)
  have l1 : tl (mulF m fp (linF m (x k))) (tl fp np + 2) ≤ np + 1 := by
    rcases Nat.lt_or_ge (np + 1) (tl (mulF m fp (linF m (x k))) (tl fp np + 2)) with hlt | hge
    · have h1 := tl_last (mulF m fp (linF m (x k))) (tl fp np + 2) (by omega)
      exact absurd (mulF_ext (n := np) (nb := 2) h.rs.2 (rs_lin (x := x k) hm).2 _ (by omega)) h1
    · exact hge
  have l2 : tl (mulF m (mulF m fp (linF m (x k))) (oneF inv)) (tl (mulF m fp (linF m (x k))) (tl fp np + 2) + 1) ≤ np + 1 := by
    rcases Nat.lt_or_ge (np + 1) (tl (mulF m (mulF m fp (linF m (x k))) (oneF inv)) (tl (mulF m fp (linF m (x k))) (tl fp np + 2) + 1)) with hlt' | hge
    · have h1 := tl_last (mulF m (mulF m fp (linF m (x k))) (oneF inv)) (tl (mulF m fp (linF m (x k))) (tl fp np + 2) + 1) (by omega)
      exact absurd (mulF_ext (n := np + 1) (nb := 1) (fun j hj => r1.tl.2 j (by omega)) (rs_one hlt).2 _ (by omega)) h1
    · exact hge
  have v : ∀ t, valF m (tl (mulF m (mulF m fp (linF m (x k))) (oneF inv)) (tl (mulF m fp (linF m (x k))) (tl fp np + 2) + 1)) (mulF m (mulF m fp (linF m (x k))) (oneF inv)) t = valF m np fp t * dif m t (x k) % m * inv % m := fun t => by
    rw [r2.valtl, val_prod r1.tl (rs_one hlt), r1.valtl, val_prod r0 (rs_lin hm), h.rs.valtl, val_lin (hx k hk), val_one hlt]
  exact {
    rs := r2.tl
    le := by
      have := h.le
      split at this
      · rw [if_pos (by omega)]; omega
      · rw [if_neg (by omega)]; omega
    hit := by
      rw [v, h.hit, Nat.mod_mul_mod, Nat.mul_assoc, Nat.mul_comm (dif m _ _), Nat.mul_mod, hinv, ← Nat.mul_mod, Nat.mul_one, Nat.mod_eq_of_lt (hy i hi)]
    miss := fun t h1 h2 => by
      rw [v]
      rcases Nat.lt_or_ge t k with h3 | h3
      · rw [h.miss t h3 h2, Nat.zero_mul, Nat.zero_mod, Nat.zero_mul, Nat.zero_mod]
      · obtain rfl : t = k := by omega
        rw [dif_self (hx t hk), Nat.mul_zero, Nat.zero_mod, Nat.zero_mul, Nat.zero_mod] }

structure LagrO (m n i : Nat) (x y : Nat → Nat) (no : Nat) (fo : Nat → Nat) : Prop where
  rs : Rs m no fo
  le : no ≤ n
  to : tl fo no = no
  hit : ∀ t, t < i → valF m no fo (x t) = y t
  miss : ∀ t, i ≤ t → t < n → valF m no fo (x t) = 0
theorem LagrO.start {m n : Nat} {x y : Nat → Nat} (hm : 0 < m) : LagrO m n 0 x y 0 (fun _ => 0) where
  rs := rs_nil hm 0
  le := Nat.zero_le _
  to := rfl
  hit := fun t h => absurd h (Nat.not_lt_zero t)
  miss := fun _ _ _ => val_nil _ _ _
theorem LagrO.step {m n i no np : Nat} {x y fo fp : Nat → Nat} (h : LagrO m n i x y no fo) (hp : Lagr m n i n x y np fp) (hm : 0 < m) (hy : ∀ j, j < n → y j < m) (hi : i < n) :
    LagrO m n (i + 1) x y (tl (subF m fo (subF m (fun _ => 0) fp)) (max no (tl (subF m (fun _ => 0) fp) (max 0 (tl fp np))))) (subF m fo (subF m (fun _ => 0) fp)) := by
  have rp := hp.rs.tl
  have rn := (rs_neg hm rp).more (show tl fp np ≤ max 0 (tl fp np) by omega)
  have hle := hp.le
  rw [if_pos hi] at hle
  have e := sub_sub h.rs hp.rs
  rw [e]
  have ra := rs_add hm h.rs hp.rs
  have r3 : Rs m (max no (tl (subF m (fun _ => 0) fp) (max 0 (tl fp np)))) (addF m fo fp) := ⟨ra.1, fun j hj => by
    unfold addF
    have h1 : (0 + m - fp j) % m = 0 := rn.tl.2 j (by omega)
    have h2 := hp.rs.1 j
    have h3 : fp j = 0 := by
      rcases Nat.eq_zero_or_pos (fp j) with h | h
      · exact h
      · rw [Nat.mod_eq_of_lt (by omega)] at h1
        omega
    rw [h.rs.2 j (by omega), h3, Nat.zero_mod]⟩
  have v : ∀ t, valF m (tl (addF m fo fp) (max no (tl (subF m (fun _ => 0) fp) (max 0 (tl fp np))))) (addF m fo fp) t = (valF m no fo t + valF m np fp t) % m := fun t => by
    rw [r3.valtl, r3.val ra, val_sum h.rs hp.rs]
  exact {
    rs := r3.tl
    le := by
      have h1 := tl_le (addF m fo fp) (max no (tl (subF m (fun _ => 0) fp) (max 0 (tl fp np))))
      have h2 := tl_le (subF m (fun _ => 0) fp) (max 0 (tl fp np))
      have h3 := tl_le fp np
      have h4 := h.le
      omega
    to := tl_tl _ _
    hit := fun t ht => by
      rw [v]
      rcases Nat.lt_or_ge t i with h1 | h1
      · rw [h.hit t h1, hp.miss t (by omega) (by omega), Nat.add_zero, Nat.mod_eq_of_lt (hy t (by omega))]
      · obtain rfl : t = i := by omega
        rw [h.miss t (Nat.le_refl _) hi, hp.hit, Nat.zero_add, Nat.mod_eq_of_lt (hy t hi)]
    miss := fun t h1 h2 => by rw [v, h.miss t (by omega) h2, hp.miss t h2 (by omega), Nat.add_zero, Nat.zero_mod] }

/-! ### there is at most one -/
theorem val_modF {m n x : Nat} {f : Nat → Nat} : valF m n (fun j => f j % m) x = valF m n f x := by
  unfold valF
  exact sumN_mod n fun i _ => by rw [Nat.mod_mul_mod]
theorem val_plus {m N x : Nat} {f g : Nat → Nat} : valF m N (fun j => f j + g j) x = (valF m N f x + valF m N g x) % m := by
  rw [← val_add, ← val_modF]
  rfl

theorem roots_zero {m : Nat} {x : Nat → Nat} (hm : 2 ≤ m) : ∀ n (h : Nat → Nat), (∀ j, j < n → x j < m) → Apart m n x → (∀ j, n ≤ j → h j = 0) → (∀ i, i < n → valF m n h (x i) = 0) → ∀ j, h j % m = 0
  | 0, h, _, _, hz, _, j => by rw [hz j (Nat.zero_le j), Nat.zero_mod]
  | n + 1, h, hx, hap, hz, hv, j => by
    have hm0 : 0 < m := by omega
    have hxn := hx n (Nat.lt_succ_self n)
    have hb := rs_lin (x := x n) hm
    have hr : ∀ j, (fun j => h j % m) j < m := fun j => Nat.mod_lt _ hm0
    have hrz : ∀ j, n + 1 ≤ j → (fun j => h j % m) j = 0 := fun j hj => by show h j % m = 0; rw [hz j hj, Nat.zero_mod]
    have hroot : valF m 2 (linF m (x n)) (x n) = 0 := by rw [val_lin hxn, dif_self hxn]
    have hiv : 1 * linF m (x n) (2 - 1) % m = 1 % m := rfl
    have hRz : ∀ j, 1 ≤ j → dR m 2 (linF m (x n)) 1 n (fun j => h j % m) j = 0 := dR_high hm0 (by omega) hiv hb.2 n _ hr (fun j hj => hrz j (by omega))
    have hRlt : ∀ j, dR m 2 (linF m (x n)) 1 n (fun j => h j % m) j < m := dR_lt hm0 _ _ hr
    have hR0 : dR m 2 (linF m (x n)) 1 n (fun j => h j % m) 0 = 0 := by
      rw [← val_low (N := n + 1) (x := x n) hRlt hRz (by omega), val_dR hb.2 hroot n _ (by omega), val_modF, hv n (Nat.lt_succ_self n)]
    obtain ⟨q, q1, q2⟩ := dR_eq (m := m) (nb := 2) (iv := 1) (b := linF m (x n)) n (fun j => h j % m)
    have q3 : ∀ j, ((fun j => h j % m) j + conv q (linF m (x n)) j) % m = 0 := fun j => by
      rw [← q2 j]
      rcases Nat.eq_zero_or_pos j with h1 | h1
      · subst h1; rw [hR0, Nat.zero_mod]
      · rw [hRz j h1, Nat.zero_mod]
    have q4 : ∀ i, i < n → valF m n q (x i) = 0 := fun i hi => by
      have e1 : valF m (n + 2) (fun j => (fun j => h j % m) j + conv q (linF m (x n)) j) (x i) = 0 := by
        rw [← val_modF]
        have : (fun j => ((fun j => h j % m) j + conv q (linF m (x n)) j) % m) = fun _ => 0 := funext q3
        rw [this, val_nil]
      rw [val_plus, val_more (n := n + 1) hrz (by omega), val_modF, hv i (by omega), Nat.zero_add, Nat.mod_eq_of_lt (valF_lt hm0 _ _ _)] at e1
      have e2 : valF m (n + 2) (conv q (linF m (x n))) (x i) = valF m n q (x i) * valF m 2 (linF m (x n)) (x i) % m := by
        rw [← val_modF, ← val_mul (M := n + 2) q1 hb.2 (Nat.le_refl _)]
        rfl
      rw [e2, val_lin hxn] at e1
      have hg := hap.ne hx (i := i) (k := n) (by omega) (Nat.lt_succ_self n) (by omega)
      have e3 : m ∣ valF m n q (x i) := Nat.Coprime.dvd_of_dvd_mul_right hg (Nat.dvd_of_mod_eq_zero e1)
      exact Nat.eq_zero_of_dvd_of_lt e3 (Nat.mod_lt _ hm0)
    have q5 := roots_zero hm n q (fun j hj => hx j (by omega)) (fun i k h1 h2 => hap i k h1 (by omega)) q1 q4
    have q6 := q3 j
    rw [Nat.add_mod, conv_mod (a' := fun _ => 0) (b' := linF m (x n)) (fun t => by rw [q5 t, Nat.zero_mod]) (fun _ => rfl), conv_zero_left, Nat.zero_mod, Nat.add_zero, Nat.mod_mod, Nat.mod_mod] at q6
    exact q6

/-- a polynomial through the points -/
structure Thr (m n : Nat) (x y : Nat → Nat) (k : Nat) (f : Nat → Nat) : Prop where
  rs : Rs m k f
  le : k ≤ n
  to : tl f k = k
  vo : ∀ t, t < n → valF m k f (x t) = y t
theorem Newt.thr {m n no nb : Nat} {x y fo fb : Nat → Nat} (h : Newt m n n x y no fo nb fb) : Thr m n x y no fo := ⟨h.ro, h.lo, h.to, h.vo⟩
theorem LagrO.thr {m n no : Nat} {x y fo : Nat → Nat} (h : LagrO m n n x y no fo) : Thr m n x y no fo := ⟨h.rs, h.le, h.to, h.hit⟩
theorem Thr.uniq {m n k l : Nat} {x y f g : Nat → Nat} (hm : 2 ≤ m) (hx : ∀ j, j < n → x j < m) (hap : Apart m n x) (h1 : Thr m n x y k f) (h2 : Thr m n x y l g) : k = l ∧ f = g := by
  have rf := h1.rs.more h1.le
  have rg := h2.rs.more h2.le
  have hfg : ∀ j, f j = g j := fun j => by
    have hz := roots_zero hm n (subF m f g) hx hap (fun j hj => by unfold subF; rw [rf.2 j hj, rg.2 j hj, Nat.sub_zero, Nat.zero_add, Nat.mod_self]) (fun i hi => by
      have e1 : addF m (subF m f g) g = f := funext fun j => by
        unfold addF subF
        have a1 := rf.1 j
        have a2 := rg.1 j
        rw [Nat.mod_add_mod, show f j + m - g j + g j = f j + m from by omega, Nat.add_mod_right, Nat.mod_eq_of_lt a1]
      have e2 := val_add (m := m) (N := n) (a := subF m f g) (b := g) (x := x i)
      rw [e1, rf.val h1.rs, h1.vo i hi, rg.val h2.rs, h2.vo i hi] at e2
      have e3 : valF m n (subF m f g) (x i) < m := Nat.mod_lt _ (by omega)
      have e4 : y i < m := by rw [← h1.vo i hi]; exact Nat.mod_lt _ (by omega)
      rcases Nat.lt_or_ge (valF m n (subF m f g) (x i) + y i) m with h | h
      · rw [Nat.mod_eq_of_lt h] at e2; omega
      · rw [Nat.mod_eq_sub_mod h, Nat.mod_eq_of_lt (by omega)] at e2; omega) j
    unfold subF at hz
    rw [Nat.mod_mod] at hz
    have a1 := rf.1 j
    have a2 := rg.1 j
    rcases Nat.lt_or_ge (f j) (g j) with h | h
    · rw [Nat.mod_eq_of_lt (by omega)] at hz; omega
    · rw [show f j + m - g j = f j - g j + m from by omega, Nat.add_mod_right, Nat.mod_eq_of_lt (by omega)] at hz; omega
  obtain rfl : f = g := funext hfg
  refine ⟨?_, rfl⟩
  rw [← h1.to, ← h2.to]
  exact tl_ext h1.rs.2 h2.rs.2
end Go.Proofs.Ytkklacgoeopekaa
