/- Words on memory and on lists of residues, used by all walks of this claim. -/
/- Plain arithmetic of polynomials as functions from Nat to Nat (0 from the length on): no program in sight. -/
/- Plain algebra of polynomials as functions: products commute, associate and distribute modulo m. No program in sight. -/
import Derived.WalkKit
import Derived.WalkSpells
import Derived.WalkLawsBesides
import Derived.Lib.Hide
import Derived.Deep.OwnRows
namespace Go.Proofs.Ytmidpholmgmdpaa
open Go.RowKit

/-- the value of a row's cell j: the number f j, of kind k -/
def ku (k : IntKind) (f : Nat → Nat) : Nat → Value := fun j => .int k ((f j : Nat) : Int)

/-- the slice (A, n) reads as f (0 from n on); its cells lie in a block from lo on, below hi -/
def Sq (k : IntKind) (w : World) (lo hi : Nat) (A : Option Addr) (n : Nat) (f : Nat → Nat) : Prop :=
  (∀ j, n ≤ j → f j = 0) ∧ (0 < n → ∃ b off, A = some ⟨b, off, none⟩ ∧ lo ≤ b ∧ b < hi ∧ ∀ j, j < n → w.cell? ⟨b, off + j, none⟩ = some (.int k ((f j : Nat) : Int)))

theorem Sq.below {k : IntKind} {w w' : World} {lo hi B : Nat} {A : Option Addr} {n : Nat} {f : Nat → Nat} (h : Sq k w lo hi A n f) (hb : Below B w w') (hB : hi ≤ B) : Sq k w' lo hi A n f :=
  ⟨h.1, fun hn => by
    obtain ⟨b, off, e, h1, h2, h3⟩ := h.2 hn
    exact ⟨b, off, e, h1, h2, fun j hj => (hb.cell (p := ⟨b, off + j, none⟩) (show b < B by omega)).trans (h3 j hj)⟩⟩

theorem Sq.wide {k : IntKind} {w : World} {lo hi lo' hi' : Nat} {A : Option Addr} {n : Nat} {f : Nat → Nat} (h : Sq k w lo hi A n f) (hl : lo' ≤ lo) (hh : hi ≤ hi') : Sq k w lo' hi' A n f :=
  ⟨h.1, fun hn => by
    obtain ⟨b, off, e, h1, h2, h3⟩ := h.2 hn
    exact ⟨b, off, e, by omega, by omega, h3⟩⟩

theorem Sq.nil (k : IntKind) (w : World) (lo hi : Nat) (A : Option Addr) : Sq k w lo hi A 0 (fun _ => 0) := ⟨fun _ _ => rfl, fun h => absurd h (by omega)⟩

theorem Sq.congr {k : IntKind} {w : World} {lo hi : Nat} {A : Option Addr} {n : Nat} {f g : Nat → Nat} (h : Sq k w lo hi A n f) (e : ∀ j, f j = g j) : Sq k w lo hi A n g := by
  have : f = g := funext e
  subst this
  exact h

theorem Sq.of_row {k : IntKind} {w : World} {b t c n lo hi : Nat} {f g : Nat → Nat} (h : w.rowIs b t c (ku k f)) (hn : n ≤ c) (hl : lo ≤ b) (hh : b < hi) (hg : ∀ j, n ≤ j → g j = 0) (he : ∀ j, j < n → f j = g j) :
    Sq k w lo hi (some ⟨b, 0, none⟩) n g :=
  ⟨hg, fun _ => ⟨b, 0, rfl, hl, hh, fun j hj => by
    rw [Nat.zero_add, h.cell (show j < c by omega)]
    simp only [ku, he j hj]⟩⟩

theorem rowIs_below {B : Nat} {w w' : World} {b t n : Nat} {F : Nat → Value} (h : w.rowIs b t n F) (hb : Below B w w') (hB : b < B) : w'.rowIs b t n F := h.of_block (hb.block b hB)

theorem rowIs_set_ku {k : IntKind} {w : World} {b t n : Nat} {f : Nat → Nat} (h : w.rowIs b t n (ku k f)) (i x : Nat) : (w.setCell ⟨b, i, none⟩ (.int k (x : Int))).rowIs b t n (ku k (fun j => if j = i then x else f j)) :=
  (h.set i _).congr fun j _ => by
    simp only [ku]
    split <;> rfl

/-- the length without the zeros at the end -/
def tl (f : Nat → Nat) : Nat → Nat
  | 0 => 0
  | n + 1 => if f n = 0 then tl f n else n + 1

theorem tl_le (f : Nat → Nat) : ∀ n, tl f n ≤ n
  | 0 => Nat.le_refl _
  | n + 1 => by
    unfold tl
    split
    · exact Nat.le_trans (tl_le f n) (Nat.le_succ n)
    · exact Nat.le_refl _
theorem tl_zero (f : Nat → Nat) : ∀ n j, tl f n ≤ j → j < n → f j = 0
  | 0, j, _, h => absurd h (Nat.not_lt_zero j)
  | n + 1, j, h1, h2 => by
    unfold tl at h1
    split at h1
    · rename_i h0
      rcases Nat.lt_or_ge j n with h | h
      · exact tl_zero f n j h1 h
      · rw [show j = n from by omega]; exact h0
    · omega
theorem tl_last (f : Nat → Nat) : ∀ n, 0 < tl f n → f (tl f n - 1) ≠ 0
  | 0, h => absurd h (Nat.lt_irrefl 0)
  | n + 1, h => by
    unfold tl at h ⊢
    split
    · rename_i h0
      rw [if_pos h0] at h
      exact tl_last f n h
    · rename_i h0
      exact h0
/-- whatever has these three properties is it -/
theorem tl_unique {f : Nat → Nat} {n k : Nat} (h1 : k ≤ n) (h2 : ∀ j, k ≤ j → j < n → f j = 0) (h3 : 0 < k → f (k - 1) ≠ 0) : tl f n = k := by
  rcases Nat.lt_trichotomy (tl f n) k with h | h | h
  · exact absurd (tl_zero f n (k - 1) (by omega) (by omega)) (h3 (by omega))
  · exact h
  · have := tl_le f n
    exact absurd (h2 (tl f n - 1) (by omega) (by omega)) (tl_last f n (by omega))
theorem tl_ext {f : Nat → Nat} {n m : Nat} (hn : ∀ j, n ≤ j → f j = 0) (hm : ∀ j, m ≤ j → f j = 0) : tl f n = tl f m := by
  refine tl_unique (k := tl f m) ?_ ?_ (tl_last f m)
  · rcases Nat.lt_or_ge n (tl f m) with h | h
    · have := tl_le f m
      exact absurd (hn (tl f m - 1) (by omega)) (tl_last f m (by omega))
    · exact h
  · intro j h1 _
    rcases Nat.lt_or_ge j m with h | h
    · exact tl_zero f m j h1 h
    · exact hm j h
theorem tl_congr {f g : Nat → Nat} (n : Nat) (h : ∀ j, j < n → f j = g j) : tl f n = tl g n := by
  refine tl_unique (tl_le g n) (fun j h1 h2 => (h j h2).trans (tl_zero g n j h1 h2)) fun h0 => ?_
  have := tl_le g n
  rw [h _ (by omega)]
  exact tl_last g n h0

/-- what a call that returns one new list leaves -/
def RetSl (w : World) (n : Nat) (F : Nat → Nat) (e : Ending) (w' : World) : Prop :=
  ∃ A c, e = .returned (.slice A n c) ∧ n ≤ c ∧ Sq .u32 w' w.heap.size w'.heap.size A n F ∧ Below w.heap.size w w'
end Go.Proofs.Ytmidpholmgmdpaa

namespace Go.Proofs.Ytmidpholmgmdpaa

/-- the sum of f i for i below n -/
def sumN (f : Nat → Nat) : Nat → Nat
  | 0 => 0
  | n + 1 => sumN f n + f n

theorem sumN_congr {f g : Nat → Nat} : ∀ n, (∀ i, i < n → f i = g i) → sumN f n = sumN g n
  | 0, _ => rfl
  | n + 1, h => by rw [sumN, sumN, sumN_congr n (fun i hi => h i (by omega)), h n (by omega)]
theorem sumN_zero {f : Nat → Nat} : ∀ n, (∀ i, i < n → f i = 0) → sumN f n = 0
  | 0, _ => rfl
  | n + 1, h => by rw [sumN, sumN_zero n (fun i hi => h i (by omega)), h n (by omega)]
theorem sumN_more {f : Nat → Nat} {n : Nat} : ∀ k, (∀ i, n ≤ i → i < n + k → f i = 0) → sumN f (n + k) = sumN f n
  | 0, _ => rfl
  | k + 1, h => by rw [← Nat.add_assoc, sumN, sumN_more k (fun i h1 h2 => h i h1 (by omega)), h (n + k) (by omega) (by omega), Nat.add_zero]

/-- the error of one polynomial -/
def chk (m n : Nat) (f : Nat → Nat) : Nat :=
  if m < 2 ∨ 2147483647 < m then 2 else if 256 < n then 3 else if (List.range n).any (fun j => decide (m ≤ f j)) || (decide (0 < n) && f (n - 1) == 0) then 2 else 0

theorem chk_zero {m n : Nat} {f : Nat → Nat} (h : chk m n f = 0) : 2 ≤ m ∧ m ≤ 2147483647 ∧ n ≤ 256 ∧ (∀ j, j < n → f j < m) ∧ (0 < n → f (n - 1) ≠ 0) := by
  unfold chk at h
  split at h
  · omega
  · split at h
    · omega
    · split at h
      · omega
      · rename_i h1 h2 h3
        simp only [Bool.or_eq_true, List.any_eq_true, List.mem_range, decide_eq_true_eq, Bool.and_eq_true, beq_iff_eq, not_or, not_exists, not_and] at h3
        refine ⟨by omega, by omega, by omega, fun j hj => ?_, fun hn => h3.2 hn⟩
        have := h3.1 j hj
        omega
theorem chk_ok {m n : Nat} {f : Nat → Nat} (h1 : 2 ≤ m) (h2 : m ≤ 2147483647) (h3 : n ≤ 256) (h4 : ∀ j, j < n → f j < m) (h5 : 0 < n → f (n - 1) ≠ 0) : chk m n f = 0 := by
  unfold chk
  rw [if_neg (by omega), if_neg (by omega), if_neg]
  simp only [Bool.or_eq_true, List.any_eq_true, List.mem_range, decide_eq_true_eq, Bool.and_eq_true, beq_iff_eq, not_or, not_exists, not_and]
  exact ⟨fun j hj => by have := h4 j hj; omega, fun h => h5 h⟩
theorem chk_m {m n : Nat} {f : Nat → Nat} (h : m < 2 ∨ 2147483647 < m) : chk m n f = 2 := by unfold chk; rw [if_pos h]
theorem chk_long {m n : Nat} {f : Nat → Nat} (h1 : 2 ≤ m) (h2 : m ≤ 2147483647) (h3 : 256 < n) : chk m n f = 3 := by
  unfold chk
  rw [if_neg (by omega), if_pos h3]
theorem chk_big {m n j : Nat} {f : Nat → Nat} (h1 : 2 ≤ m) (h2 : m ≤ 2147483647) (h3 : n ≤ 256) (h4 : j < n) (h5 : m ≤ f j) : chk m n f = 2 := by
  unfold chk
  rw [if_neg (by omega), if_neg (by omega), if_pos]
  simp only [Bool.or_eq_true, List.any_eq_true, List.mem_range, decide_eq_true_eq]
  exact .inl ⟨j, h4, h5⟩
theorem chk_last {m n : Nat} {f : Nat → Nat} (h1 : 2 ≤ m) (h2 : m ≤ 2147483647) (h3 : n ≤ 256) (h4 : 0 < n) (h5 : f (n - 1) = 0) : chk m n f = 2 := by
  unfold chk
  rw [if_neg (by omega), if_neg (by omega), if_pos]
  simp only [Bool.or_eq_true, Bool.and_eq_true, decide_eq_true_eq, beq_iff_eq]
  exact .inr ⟨h4, h5⟩
theorem chk_cases (m n : Nat) (f : Nat → Nat) : chk m n f = 0 ∨ chk m n f = 2 ∨ chk m n f = 3 := by
  unfold chk
  split
  · exact .inr (.inl rfl)
  · split
    · exact .inr (.inr rfl)
    · split
      · exact .inr (.inl rfl)
      · exact .inl rfl

/-- the error of two -/
def chk2 (m n : Nat) (a : Nat → Nat) (nb : Nat) (b : Nat → Nat) : Nat := if chk m n a = 0 then chk m nb b else chk m n a

theorem chk2_zero {m n nb : Nat} {a b : Nat → Nat} (h : chk2 m n a nb b = 0) : chk m n a = 0 ∧ chk m nb b = 0 := by
  unfold chk2 at h
  split at h
  · exact ⟨by assumption, h⟩
  · rename_i h0; exact absurd h h0

/-- two lists are equal -/
def sameB (n : Nat) (a : Nat → Nat) (nb : Nat) (b : Nat → Nat) : Bool := n == nb && (List.range n).all fun j => a j == b j

theorem sameB_true {n nb : Nat} {a b : Nat → Nat} : sameB n a nb b = true ↔ n = nb ∧ ∀ j, j < n → a j = b j := by
  unfold sameB
  simp only [Bool.and_eq_true, beq_iff_eq, List.all_eq_true, List.mem_range]
theorem sameB_refl (n : Nat) (a : Nat → Nat) : sameB n a n a = true := sameB_true.2 ⟨rfl, fun _ _ => rfl⟩

theorem sameB_ne1 {n nb : Nat} {a b : Nat → Nat} (h : n ≠ nb) : sameB n a nb b = false := by
  cases e : sameB n a nb b
  · rfl
  · exact absurd (sameB_true.1 e).1 h
theorem sameB_ne2 {n k : Nat} {a b : Nat → Nat} (hk : k < n) (h : a k ≠ b k) : sameB n a n b = false := by
  cases e : sameB n a n b
  · rfl
  · exact absurd ((sameB_true.1 e).2 k hk) h

/-- the coefficients of a sum, a difference, a product -/
def addF (m : Nat) (a b : Nat → Nat) : Nat → Nat := fun j => (a j + b j) % m
def subF (m : Nat) (a b : Nat → Nat) : Nat → Nat := fun j => (a j + m - b j) % m
def mulF (m : Nat) (a b : Nat → Nat) : Nat → Nat := fun k => sumN (fun t => a t * b (k - t)) (k + 1) % m

/-- the first i terms of a product's coefficient j -/
def pS (a b : Nat → Nat) (i j : Nat) : Nat := sumN (fun t => if t ≤ j then a t * b (j - t) else 0) i

theorem pS_succ_hit {a b : Nat → Nat} {i j : Nat} (h : i ≤ j) : pS a b (i + 1) j = pS a b i j + a i * b (j - i) := by
  unfold pS
  rw [sumN, if_pos h]
theorem pS_succ_miss {a b : Nat → Nat} {i j : Nat} (h : j < i ∨ b (j - i) = 0) : pS a b (i + 1) j = pS a b i j := by
  unfold pS
  rw [sumN]
  split
  · rcases h with h | h
    · omega
    · rw [h, Nat.mul_zero, Nat.add_zero]
  · rw [Nat.add_zero]
theorem pS_full {a b : Nat → Nat} {n : Nat} (ha : ∀ j, n ≤ j → a j = 0) (j : Nat) : pS a b n j = sumN (fun t => a t * b (j - t)) (j + 1) := by
  unfold pS
  have e1 : sumN (fun t => if t ≤ j then a t * b (j - t) else 0) (j + 1) = sumN (fun t => a t * b (j - t)) (j + 1) := sumN_congr _ fun i hi => if_pos (by omega)
  rw [← e1]
  rcases Nat.le_total n (j + 1) with h | h
  · obtain ⟨d, hd⟩ := Nat.exists_eq_add_of_le h
    rw [hd]
    refine (sumN_more d fun i h1 _ => ?_).symm
    rw [ha i h1]
    simp
  · obtain ⟨d, hd⟩ := Nat.exists_eq_add_of_le h
    rw [hd]
    refine sumN_more d fun i h1 _ => ?_
    rw [if_neg (by omega)]

theorem mulF_lt {m : Nat} (hm : 0 < m) (a b : Nat → Nat) (j : Nat) : mulF m a b j < m := Nat.mod_lt _ hm
theorem mulF_ext {m n nb : Nat} {a b : Nat → Nat} (ha : ∀ j, n ≤ j → a j = 0) (hb : ∀ j, nb ≤ j → b j = 0) (j : Nat) (hj : n + nb ≤ j + 1) : mulF m a b j = 0 := by
  unfold mulF
  rw [sumN_zero]
  · exact Nat.zero_mod m
  · intro t ht
    rcases Nat.lt_or_ge t n with h | h
    · rw [hb (j - t) (by omega), Nat.mul_zero]
    · rw [ha t h, Nat.zero_mul]

theorem mulF_zero {m : Nat} {a b : Nat → Nat} (h : (∀ j, a j = 0) ∨ (∀ j, b j = 0)) (j : Nat) : mulF m a b j = 0 := by
  unfold mulF
  rw [sumN_zero]
  · exact Nat.zero_mod m
  · intro t _
    rcases h with h | h
    · rw [h, Nat.zero_mul]
    · rw [h, Nat.mul_zero]
theorem tl_zeros {f : Nat → Nat} (h : ∀ j, f j = 0) (n : Nat) : tl f n = 0 := tl_unique (Nat.zero_le _) (fun j _ _ => h j) fun h => absurd h (Nat.lt_irrefl 0)

/-- the inverse of a modulo m, where there is one -/
def invN (a m : Nat) : Nat := ((List.range m).find? fun r => r * a % m == 1 % m).getD 0

theorem inv_unique {a m r s : Nat} (hr : r < m) (hs : s < m) (h1 : r * a % m = 1 % m) (h2 : s * a % m = 1 % m) : r = s := by
  have key : r * (s * a) % m = s * (r * a) % m := by rw [Nat.mul_left_comm]
  have e1 : r * (s * a) % m = r := by rw [Nat.mul_mod, h2, ← Nat.mul_mod, Nat.mul_one, Nat.mod_eq_of_lt hr]
  have e2 : s * (r * a) % m = s := by rw [Nat.mul_mod, h1, ← Nat.mul_mod, Nat.mul_one, Nat.mod_eq_of_lt hs]
  exact e1.symm.trans (key.trans e2)

theorem invN_eq {a m r : Nat} (hr : r < m) (h : r * a % m = 1 % m) : invN a m = r := by
  unfold invN
  cases hf : (List.range m).find? fun r => r * a % m == 1 % m with
  | none =>
    have := List.find?_eq_none.1 hf r (List.mem_range.2 hr)
    simp [h] at this
  | some s =>
    have h1 := List.find?_some hf
    have h2 := List.mem_range.1 (List.mem_of_find?_eq_some hf)
    exact (inv_unique hr h2 h (by simpa using h1)).symm

/-! ### division -/
def dC (m nb iv : Nat) (i : Nat) (r : Nat → Nat) : Nat := r (i + nb - 1) * iv % m
def dStep (m nb : Nat) (b : Nat → Nat) (iv : Nat) (i : Nat) (r : Nat → Nat) : Nat → Nat := fun j => if i ≤ j then (r j + (m - dC m nb iv i r) * b (j - i)) % m else r j
def dR (m nb : Nat) (b : Nat → Nat) (iv : Nat) : Nat → (Nat → Nat) → (Nat → Nat)
  | 0, r => r
  | i + 1, r => dR m nb b iv i (dStep m nb b iv i r)
def dQ (m nb : Nat) (b : Nat → Nat) (iv : Nat) : Nat → (Nat → Nat) → (Nat → Nat)
  | 0, _ => fun _ => 0
  | i + 1, r => fun j => if j = i then dC m nb iv i r else dQ m nb b iv i (dStep m nb b iv i r) j

theorem dStep_lt {m nb iv i : Nat} {b r : Nat → Nat} (hm : 0 < m) (hr : ∀ j, r j < m) (j : Nat) : dStep m nb b iv i r j < m := by
  unfold dStep
  split
  · exact Nat.mod_lt _ hm
  · exact hr j
theorem dR_lt {m nb iv : Nat} {b : Nat → Nat} (hm : 0 < m) : ∀ i (r : Nat → Nat), (∀ j, r j < m) → ∀ j, dR m nb b iv i r j < m
  | 0, _, h => h
  | i + 1, _, h => dR_lt hm i _ (dStep_lt hm h)
theorem dQ_out {m nb iv : Nat} {b : Nat → Nat} : ∀ i (r : Nat → Nat) j, i ≤ j → dQ m nb b iv i r j = 0
  | 0, _, _, _ => rfl
  | i + 1, r, j, h => by
    simp only [dQ]
    rw [if_neg (by omega)]
    exact dQ_out i _ j (by omega)
theorem dQ_lt {m nb iv : Nat} {b : Nat → Nat} (hm : 0 < m) : ∀ i (r : Nat → Nat) j, dQ m nb b iv i r j < m
  | 0, _, _ => hm
  | i + 1, r, j => by
    simp only [dQ]
    split
    · exact Nat.mod_lt _ hm
    · exact dQ_lt hm i _ j
/-- where the leading element is 0 already, nothing is done -/
theorem dStep_zero {m nb iv i : Nat} {b r : Nat → Nat} (hr : ∀ j, r j < m) (h0 : r (i + nb - 1) = 0) : dStep m nb b iv i r = r := by
  funext j
  unfold dStep dC
  rw [h0, Nat.zero_mul, Nat.zero_mod, Nat.sub_zero]
  split
  · rw [Nat.add_mul_mod_self_left, Nat.mod_eq_of_lt (hr j)]
  · rfl
/-- a step that has the inverse takes the leading element away -/
theorem dStep_lead {m nb iv i : Nat} {b r : Nat → Nat} (hm : 0 < m) (hnb : 0 < nb) (hiv : iv * b (nb - 1) % m = 1 % m) (_hr : ∀ j, r j < m) : dStep m nb b iv i r (i + nb - 1) = 0 := by
  unfold dStep
  rw [if_pos (by omega), show i + nb - 1 - i = nb - 1 from by omega]
  have hc : dC m nb iv i r < m := Nat.mod_lt _ hm
  have e : dC m nb iv i r * b (nb - 1) % m = r (i + nb - 1) % m := by
    unfold dC
    rw [Nat.mul_mod, Nat.mod_mod, ← Nat.mul_mod, Nat.mul_assoc, Nat.mul_mod, hiv, ← Nat.mul_mod, Nat.mul_one]
  have key : ((r (i + nb - 1) + (m - dC m nb iv i r) * b (nb - 1)) + dC m nb iv i r * b (nb - 1)) % m = r (i + nb - 1) % m := by
    rw [Nat.add_assoc, ← Nat.add_mul, Nat.sub_add_cancel (Nat.le_of_lt hc), Nat.add_mul_mod_self_left]
  have key2 : ((r (i + nb - 1) + (m - dC m nb iv i r) * b (nb - 1)) % m + r (i + nb - 1) % m) % m = (0 + r (i + nb - 1) % m) % m := by
    rw [← e, ← Nat.add_mod, key, e, Nat.zero_add, Nat.mod_mod]
  have h1 : (r (i + nb - 1) + (m - dC m nb iv i r) * b (nb - 1)) % m < m := Nat.mod_lt _ hm
  have h2 : r (i + nb - 1) % m < m := Nat.mod_lt _ hm
  generalize (r (i + nb - 1) + (m - dC m nb iv i r) * b (nb - 1)) % m = x at *
  generalize r (i + nb - 1) % m = y at *
  rw [Nat.zero_add, Nat.mod_eq_of_lt h2] at key2
  rcases Nat.lt_or_ge (x + y) m with h | h
  · rw [Nat.mod_eq_of_lt h] at key2
    omega
  · rw [Nat.mod_eq_sub_mod h, Nat.mod_eq_of_lt (by omega)] at key2
    omega
theorem dStep_out {m nb iv i : Nat} {b r : Nat → Nat} (hb : ∀ j, nb ≤ j → b j = 0) (hr : ∀ j, r j < m) {j : Nat} (h : i + nb ≤ j) : dStep m nb b iv i r j = r j := by
  unfold dStep
  rw [if_pos (by omega), hb _ (by omega), Nat.mul_zero, Nat.add_zero, Nat.mod_eq_of_lt (hr j)]
/-- leading zeros may be passed over -/
theorem dR_skip {m nb iv : Nat} {b : Nat → Nat} {k : Nat} : ∀ d (r : Nat → Nat), (∀ j, r j < m) → (∀ j, k + nb - 1 ≤ j → r j = 0) → 0 < nb → dR m nb b iv (k + d) r = dR m nb b iv k r ∧ dQ m nb b iv (k + d) r = dQ m nb b iv k r
  | 0, _, _, _, _ => ⟨rfl, rfl⟩
  | d + 1, r, h1, h2, h3 => by
    have e := dStep_zero (b := b) (iv := iv) (i := k + d) (nb := nb) h1 (h2 _ (by omega))
    have ih := dR_skip (b := b) (iv := iv) (k := k) d r h1 h2 h3
    rw [← Nat.add_assoc, dR, dQ, e]
    refine ⟨ih.1, funext fun j => ?_⟩
    split
    · rename_i hj
      subst hj
      rw [dQ_out k r _ (by omega)]
      unfold dC
      rw [h2 _ (by omega), Nat.zero_mul, Nat.zero_mod]
    · rw [ih.2]
theorem dR_high {m nb iv : Nat} {b : Nat → Nat} (hm : 0 < m) (hnb : 0 < nb) (hiv : iv * b (nb - 1) % m = 1 % m) (hb : ∀ j, nb ≤ j → b j = 0) :
    ∀ i (r : Nat → Nat), (∀ j, r j < m) → (∀ j, i + nb - 1 ≤ j → r j = 0) → ∀ j, nb - 1 ≤ j → dR m nb b iv i r j = 0
  | 0, _, _, h2, j, hj => h2 j (by omega)
  | i + 1, r, h1, h2, j, hj => by
    rw [dR]
    refine dR_high hm hnb hiv hb i _ (dStep_lt hm h1) (fun t ht => ?_) j hj
    rcases Nat.lt_or_ge (i + nb - 1) t with h | h
    · rw [dStep_out hb h1 (by omega)]
      exact h2 t (by omega)
    · rw [show t = i + nb - 1 from by omega]
      exact dStep_lead hm hnb hiv h1
end Go.Proofs.Ytmidpholmgmdpaa

namespace Go.Proofs.Ytmidpholmgmdpaa

theorem sumN_add (f g : Nat → Nat) : ∀ n, sumN (fun i => f i + g i) n = sumN f n + sumN g n
  | 0 => rfl
  | n + 1 => by rw [sumN, sumN, sumN, sumN_add f g n]; omega
theorem sumN_mul_left (c : Nat) (f : Nat → Nat) : ∀ n, sumN (fun i => c * f i) n = c * sumN f n
  | 0 => rfl
  | n + 1 => by rw [sumN, sumN, sumN_mul_left c f n, Nat.mul_add]
theorem sumN_mul_right (c : Nat) (f : Nat → Nat) : ∀ n, sumN (fun i => f i * c) n = sumN f n * c
  | 0 => by simp [sumN]
  | n + 1 => by rw [sumN, sumN, sumN_mul_right c f n, Nat.add_mul]
theorem sumN_head (f : Nat → Nat) : ∀ n, sumN f (n + 1) = f 0 + sumN (fun i => f (i + 1)) n
  | 0 => by simp [sumN]
  | n + 1 => by rw [sumN, sumN_head f n, sumN, Nat.add_assoc]
theorem sumN_rev (f : Nat → Nat) : ∀ n, sumN (fun i => f (n - i)) (n + 1) = sumN f (n + 1)
  | 0 => rfl
  | n + 1 => by
    have e : sumN (fun i => f (n + 1 - (i + 1))) (n + 1) = sumN (fun i => f (n - i)) (n + 1) := sumN_congr _ fun i _ => by rw [Nat.add_sub_add_right]
    rw [sumN_head, Nat.sub_zero, e, sumN_rev f n]
    exact Nat.add_comm _ _
theorem sumN_mod {m : Nat} {f g : Nat → Nat} : ∀ n, (∀ i, i < n → f i % m = g i % m) → sumN f n % m = sumN g n % m
  | 0, _ => rfl
  | n + 1, h => by rw [sumN, sumN, Nat.add_mod, sumN_mod n (fun i hi => h i (by omega)), h n (by omega), ← Nat.add_mod]
/-- two sums may change places -/
theorem sumN_swap (f : Nat → Nat → Nat) (m : Nat) : ∀ n, sumN (fun i => sumN (f i) m) n = sumN (fun j => sumN (fun i => f i j) n) m
  | 0 => by
    have : ∀ m, sumN (fun _ => sumN (fun i => f i 0) 0) m = 0 := fun m => sumN_zero m fun _ _ => rfl
    exact (sumN_zero m fun _ _ => rfl).symm
  | n + 1 => by
    rw [sumN, sumN_swap f m n, ← sumN_add]
    rfl

/-- the product's coefficient k -/
def conv (a b : Nat → Nat) (k : Nat) : Nat := sumN (fun t => a t * b (k - t)) (k + 1)

theorem mulF_conv (m : Nat) (a b : Nat → Nat) (k : Nat) : mulF m a b k = conv a b k % m := rfl

theorem conv_comm (a b : Nat → Nat) (k : Nat) : conv a b k = conv b a k := by
  unfold conv
  rw [← sumN_rev]
  exact sumN_congr _ fun i hi => by rw [Nat.mul_comm, show k - (k - i) = i from by omega]

/-- the terms of a triple product, by the first two places -/
theorem conv_conv (a b c : Nat → Nat) (k : Nat) : conv (conv a b) c k = sumN (fun i => sumN (fun j => if i + j ≤ k then a i * b j * c (k - (i + j)) else 0) (k + 1)) (k + 1) := by
  have e1 : conv (conv a b) c k = sumN (fun s => sumN (fun i => if i ≤ s then a i * b (s - i) * c (k - s) else 0) (k + 1)) (k + 1) := by
    unfold conv
    refine sumN_congr _ fun s hs => ?_
    rw [← sumN_mul_right]
    obtain ⟨d, hd⟩ := Nat.exists_eq_add_of_le (show s + 1 ≤ k + 1 by omega)
    rw [hd]
    rw [sumN_more d (fun i h1 _ => if_neg (by omega))]
    exact sumN_congr _ fun i hi => by rw [if_pos (by omega)]
  rw [e1, sumN_swap]
  refine sumN_congr _ fun i hi => ?_
  -- for this i: s = i + j
  have e2 : ∀ n, sumN (fun s => if i ≤ s then a i * b (s - i) * c (k - s) else 0) (i + n) = sumN (fun j => a i * b j * c (k - (i + j))) n := by
    intro n
    induction n with
    | zero => exact sumN_zero _ fun s hs => if_neg (by omega)
    | succ n ih =>
      rw [← Nat.add_assoc, sumN, ih, sumN, if_pos (by omega), Nat.add_sub_cancel_left]
  obtain ⟨d, hd⟩ := Nat.exists_eq_add_of_le (show i ≤ k + 1 by omega)
  rw [hd, e2 d]
  have e3 : i + d = d + i := Nat.add_comm _ _
  rw [e3, sumN_more i (fun j h1 _ => if_neg (by omega))]
  exact sumN_congr _ fun j hj => by rw [if_pos (by omega)]

theorem conv_assoc (a b c : Nat → Nat) (k : Nat) : conv (conv a b) c k = conv a (conv b c) k := by
  rw [conv_comm a (conv b c), conv_conv, conv_conv]
  -- both are the sum over all i + j + l = k
  have key : ∀ (f g h : Nat → Nat), sumN (fun i => sumN (fun j => if i + j ≤ k then f i * g j * h (k - (i + j)) else 0) (k + 1)) (k + 1) = sumN (fun j => sumN (fun l => if j + l ≤ k then g j * h l * f (k - (j + l)) else 0) (k + 1)) (k + 1) := by
    intro f g h
    rw [sumN_swap]
    refine sumN_congr _ fun j hj => ?_
    -- for this j turn i into l = k - j - i
    have e : ∀ (F : Nat → Nat), (∀ i, k - j < i → F i = 0) → sumN F (k + 1) = sumN F (k - j + 1) := by
      intro F hF
      have : k + 1 = (k - j + 1) + j := by omega
      rw [this]
      exact sumN_more j fun i h1 _ => hF i (by omega)
    rw [e _ (fun i hi => if_neg (by omega)), e _ (fun i hi => if_neg (by omega)), ← sumN_rev]
    refine sumN_congr _ fun l hl => ?_
    rw [if_pos (by omega), if_pos (by omega), show k - (k - j - l + j) = l from by omega, show k - j - l = k - (j + l) from by omega]
    rw [Nat.mul_comm (f _) (g j), Nat.mul_assoc, Nat.mul_assoc, Nat.mul_comm (f _) (h l)]
  exact key a b c

theorem conv_add (a b c : Nat → Nat) (k : Nat) : conv (fun j => a j + b j) c k = conv a c k + conv b c k := by
  unfold conv
  rw [← sumN_add]
  exact sumN_congr _ fun i _ => Nat.add_mul _ _ _

theorem conv_mod {m : Nat} {a a' b b' : Nat → Nat} (ha : ∀ j, a j % m = a' j % m) (hb : ∀ j, b j % m = b' j % m) (k : Nat) : conv a b k % m = conv a' b' k % m :=
  sumN_mod _ fun i _ => by rw [Nat.mul_mod, ha, hb, ← Nat.mul_mod]

theorem mulF_comm (m : Nat) (a b : Nat → Nat) : mulF m a b = mulF m b a := funext fun k => by rw [mulF_conv, mulF_conv, conv_comm]
theorem mulF_assoc (m : Nat) (a b c : Nat → Nat) : mulF m (mulF m a b) c = mulF m a (mulF m b c) := funext fun k => by
  rw [mulF_conv, mulF_conv, conv_mod (a' := conv a b) (b' := c) (fun j => by rw [mulF_conv, Nat.mod_mod]) (fun _ => rfl), conv_assoc,
    conv_mod (a := a) (b := mulF m b c) (a' := a) (b' := conv b c) (fun _ => rfl) (fun j => by rw [mulF_conv, Nat.mod_mod])]
theorem mulF_add (m : Nat) (a b c : Nat → Nat) : mulF m (addF m a b) c = addF m (mulF m a c) (mulF m b c) := funext fun k => by
  unfold addF
  rw [mulF_conv, conv_mod (a' := fun j => a j + b j) (b' := c) (fun j => by rw [Nat.mod_mod]) (fun _ => rfl), conv_add, mulF_conv, mulF_conv, Nat.add_mod]
theorem subF_addF {m : Nat} {a b : Nat → Nat} (ha : ∀ j, a j < m) (hb : ∀ j, b j < m) : subF m (addF m a b) b = a := funext fun k => by
  unfold subF addF
  have h1 := ha k
  have h2 := hb k
  rcases Nat.lt_or_ge (a k + b k) m with h | h
  · rw [Nat.mod_eq_of_lt h, show a k + b k + m - b k = a k + m from by omega, Nat.add_mod_right, Nat.mod_eq_of_lt h1]
  · rw [Nat.mod_eq_sub_mod h, Nat.mod_eq_of_lt (show a k + b k - m < m by omega), show a k + b k - m + m - b k = a k from by omega, Nat.mod_eq_of_lt h1]
end Go.Proofs.Ytmidpholmgmdpaa
