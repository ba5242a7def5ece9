/- Euclid's rule with the multiples of a that yield the rests: plain arithmetic. -/
import Derived.Test.YtbajapjaejpcjaaPlain
namespace Go.Proofs.Ytbajapjaejpcjaa

/-- what holds at each round's head: x and y are the rests, u a = x and v a = y modulo m -/
structure EI (m a x y : Nat) (u v : Int) : Prop where
  lt : y < x
  le : x ≤ m
  gcd : Nat.gcd x y = Nat.gcd m a
  hu : ∃ s : Int, u * a = x + s * m
  hv : ∃ s : Int, v * a = y + s * m
  det : (v * x - u * y = m ∧ u ≤ 0 ∧ 0 ≤ v) ∨ (v * x - u * y = -(m : Int) ∧ 0 ≤ u ∧ v ≤ 0)
  small : -(m : Int) ≤ 2 * u ∧ 2 * u ≤ m
  top : -(m : Int) ≤ v ∧ v ≤ m

theorem EI.start {m a : Nat} (ha : a < m) : EI m a m a 0 1 :=
  ⟨ha, Nat.le_refl m, rfl, ⟨-1, by omega⟩, ⟨0, by omega⟩, .inl ⟨by omega, by omega, by omega⟩, by omega, by omega⟩

theorem EI.step {m a x y : Nat} {u v : Int} (h : EI m a x y u v) (hy : 0 < y) : EI m a y (x % y) v (u - (x : Int) / (y : Int) * v) := by
  obtain ⟨h1, h2, h3, ⟨s, hs⟩, ⟨t, ht⟩, h6, h7, h8⟩ := h
  have hq : (x : Int) / (y : Int) * (y : Int) + (x : Int) % (y : Int) = x := by rw [Int.mul_comm]; exact Int.mul_ediv_add_emod _ _
  have hmod : ((x % y : Nat) : Int) = (x : Int) % (y : Int) := Int.natCast_emod x y
  have hlt := Nat.mod_lt x hy
  obtain ⟨q, hqd⟩ : ∃ q : Int, (x : Int) / (y : Int) = q := ⟨_, rfl⟩
  have hq0 : 0 ≤ q := by rw [← hqd]; exact Int.ediv_nonneg (Int.natCast_nonneg _) (Int.natCast_nonneg _)
  rw [hqd] at hq ⊢
  obtain ⟨r, hr⟩ : ∃ r, x % y = r := ⟨_, rfl⟩
  rw [← hmod] at hq
  rw [hr] at hq hlt ⊢
  -- the determinant turns its sign
  have hdet : (u - q * v) * (y : Int) - v * (r : Int) = -(v * x - u * y) := by
    rw [← hq, Int.sub_mul, Int.mul_add, Int.mul_comm v (q * (y : Int)), Int.mul_right_comm q (y : Int) v]
    omega
  have hx2 : (2 : Int) ≤ x := by omega
  have hy1 : (1 : Int) ≤ y := by omega
  have hr0 : (0 : Int) ≤ r := Int.natCast_nonneg r
  refine ⟨hlt, by omega, ?_, ⟨t, ht⟩, ⟨s - q * t, ?_⟩, ?_, ?_, ?_⟩
  · rw [← hr, Nat.gcd_comm y, ← Nat.gcd_rec, Nat.gcd_comm, h3]
  · rw [Int.sub_mul, hs, Int.mul_assoc, ht, Int.mul_add, Int.sub_mul, ← hq, Int.mul_assoc]
    omega
  · rcases h6 with ⟨e, e1, e2⟩ | ⟨e, e1, e2⟩
    · exact .inr ⟨by rw [hdet, e], e2, by have := Int.mul_nonneg hq0 e2; omega⟩
    · refine .inl ⟨by rw [hdet, e]; omega, e2, ?_⟩
      have := Int.mul_nonneg hq0 (show 0 ≤ -v by omega)
      rw [Int.mul_neg] at this
      omega
  · rcases h6 with ⟨e, e1, e2⟩ | ⟨e, e1, e2⟩
    · have a1 := Int.mul_nonneg (show 0 ≤ -u by omega) (show (0 : Int) ≤ y by omega)
      have a2 := Int.mul_nonneg e2 (show (0 : Int) ≤ x - 2 by omega)
      rw [Int.neg_mul] at a1
      rw [Int.mul_sub] at a2
      omega
    · have a1 := Int.mul_nonneg e1 (show (0 : Int) ≤ y by omega)
      have a2 := Int.mul_nonneg (show 0 ≤ -v by omega) (show (0 : Int) ≤ x - 2 by omega)
      rw [Int.mul_sub, Int.neg_mul, Int.neg_mul] at a2
      omega
  · have key : (u - q * v) * (y : Int) - v * (r : Int) = -(v * x - u * y) := hdet
    obtain ⟨z, hz⟩ : ∃ z, u - q * v = z := ⟨_, rfl⟩
    rw [hz] at key ⊢
    rcases h6 with ⟨e, e1, e2⟩ | ⟨e, e1, e2⟩
    · have hz0 : z ≤ 0 := by have := Int.mul_nonneg hq0 e2; omega
      have a1 := Int.mul_nonneg (show 0 ≤ -z by omega) (show (0 : Int) ≤ y - 1 by omega)
      have a2 := Int.mul_nonneg e2 hr0
      rw [Int.mul_sub, Int.neg_mul, Int.neg_mul] at a1
      omega
    · have hz0 : 0 ≤ z := by
        have := Int.mul_nonneg hq0 (show 0 ≤ -v by omega)
        rw [Int.mul_neg] at this
        omega
      have a1 := Int.mul_nonneg hz0 (show (0 : Int) ≤ y - 1 by omega)
      have a2 := Int.mul_nonneg (show 0 ≤ -v by omega) hr0
      rw [Int.mul_sub] at a1
      rw [Int.neg_mul] at a2
      omega

/-- the products that the program computes on the way, and their bounds -/
theorem EI.bounds {m a x y : Nat} {u v : Int} (h : EI m a x y u v) (hy : 0 < y) : 0 ≤ (x : Int) / (y : Int) * (y : Int) ∧ (x : Int) / (y : Int) * (y : Int) ≤ x ∧ -(2 * (m : Int)) ≤ (x : Int) / (y : Int) * v ∧ (x : Int) / (y : Int) * v ≤ 2 * (m : Int) ∧
    (x : Int) - (x : Int) / (y : Int) * (y : Int) = ((x % y : Nat) : Int) := by
  have hs := h.step hy
  have h1 := hs.top
  have h2 := h.small
  have hq : (x : Int) / (y : Int) * (y : Int) + (x : Int) % (y : Int) = x := by rw [Int.mul_comm]; exact Int.mul_ediv_add_emod _ _
  have hmod : ((x % y : Nat) : Int) = (x : Int) % (y : Int) := Int.natCast_emod x y
  have hn : 0 ≤ (x : Int) / (y : Int) * (y : Int) := Int.mul_nonneg (Int.ediv_nonneg (Int.natCast_nonneg _) (Int.natCast_nonneg _)) (Int.natCast_nonneg _)
  refine ⟨hn, by omega, by omega, by omega, by omega⟩

theorem quo_bounds (x y : Nat) : 0 ≤ (x : Int) / (y : Int) ∧ (x : Int) / (y : Int) ≤ x :=
  ⟨Int.ediv_nonneg (Int.natCast_nonneg _) (Int.natCast_nonneg _), Int.ediv_le_self _ (Int.natCast_nonneg _)⟩

/-- at the end: the rest is the greatest common divisor, and u the inverse if that is 1 -/
theorem EI.end_ {m a x : Nat} {u v : Int} (h : EI m a x 0 u v) : x = Nat.gcd m a := by rw [← h.gcd, Nat.gcd_zero_right]
theorem EI.inv {m a : Nat} {u v : Int} (h : EI m a 1 0 u v) (hm : 2 ≤ m) : 0 ≤ (if u < 0 then u + m else u) ∧ (if u < 0 then u + m else u) < m ∧ ((invN a m : Nat) : Int) = (if u < 0 then u + m else u) := by
  have h2 := h.small
  obtain ⟨s, hs⟩ := h.hu
  have hr0 : 0 ≤ (if u < 0 then u + m else u) := by split <;> omega
  have hr1 : (if u < 0 then u + m else u) < m := by split <;> omega
  have hr2 : ∃ t : Int, (if u < 0 then u + m else u) * a = 1 + t * m := by
    split
    · exact ⟨s + a, by rw [Int.add_mul, hs, Int.add_mul, Int.mul_comm (a : Int)]; simp only [Int.natCast_one]; omega⟩
    · exact ⟨s, by rw [hs]; rfl⟩
  obtain ⟨r, hr⟩ := Int.eq_ofNat_of_zero_le hr0
  obtain ⟨t, ht⟩ := hr2
  rw [hr] at hr1 ht ⊢
  refine ⟨Int.natCast_nonneg r, hr1, ?_⟩
  congr 1
  refine invN_eq (by omega) ?_
  have e1 : ((r * a % m : Nat) : Int) = ((1 % m : Nat) : Int) := by
    rw [Int.natCast_emod, Int.natCast_emod, Int.natCast_mul, ht, Int.add_mul_emod_self_right]
    rfl
  exact Int.ofNat_inj.1 e1

theorem invN_spec {a m : Nat} (ha : a < m) (hm : 2 ≤ m) (hg : Nat.gcd m a = 1) : invN a m < m ∧ invN a m * a % m = 1 % m := by
  -- run Euclid's rule
  have run : ∀ k x y (u v : Int), y ≤ k → EI m a x y u v → ∃ x' u' v', EI m a x' 0 u' v' := by
    intro k
    induction k with
    | zero =>
      intro x y u v hy h
      obtain rfl : y = 0 := by omega
      exact ⟨x, u, v, h⟩
    | succ k ih =>
      intro x y u v hy h
      rcases Nat.eq_zero_or_pos y with h0 | h0
      · subst h0
        exact ⟨x, u, v, h⟩
      · exact ih _ _ _ _ (by have := Nat.mod_lt x h0; omega) (h.step h0)
  obtain ⟨x, u, v, h⟩ := run a m a 0 1 (Nat.le_refl a) (EI.start ha)
  obtain rfl : x = 1 := h.end_.trans hg
  have hi := h.inv hm
  have h2 := h.small
  obtain ⟨s, hs⟩ := h.hu
  refine ⟨by omega, ?_⟩
  have e1 : ((invN a m * a % m : Nat) : Int) = ((1 % m : Nat) : Int) := by
    rw [Int.natCast_emod, Int.natCast_emod, Int.natCast_mul, hi.2.2]
    split
    · rw [Int.add_mul, hs, Int.mul_comm (m : Int), Int.add_mul_emod_self_right, Int.add_mul_emod_self_right]
    · rw [hs, Int.add_mul_emod_self_right]
  exact Int.ofNat_inj.1 e1
end Go.Proofs.Ytbajapjaejpcjaa
