/- Words on memory and on lists of residues, used by all walks of this claim. -/
/- Plain arithmetic of polynomials as functions from Nat to Nat (0 from the length on): no program in sight. -/
/- Euclid's rule with the multiples of a that yield the rests: plain arithmetic. -/
/- The laws of make, append and copy over the words of Base: lists of numbers of one kind, told by a function. -/
/- What a call leaves: one value, and what was there as it was. -/
import Derived.WalkKit
import Derived.WalkSpells
import Derived.WalkLawsBesides
import Derived.Lib.Hide
import Derived.Deep.OwnRows
import Derived.Maps.AppendAt
import Derived.Laws.CopyOwn
import Derived.Laws.AppendOwnNone
import Derived.Test.YtkklacgoeopekaaChecked
import Derived.RegionTactic
import Derived.Deep.QuietTactic
import Derived.BigQuiet
namespace Go.Proofs.Ytkklacgoeopekaa
open Go.RowKit

/-- the value of a row's cell j: the number f j, of kind k -/
def ku (k : IntKind) (f : Nat → Nat) : Nat → Value := fun j => .int k ((f j : Nat) : Int)

/-- the slice (A, n) reads as f (0 from n on); its cells lie in a block from lo on, below hi -/
def Sq (k : IntKind) (w : World) (lo hi : Nat) (A : Option Addr) (n : Nat) (f : Nat → Nat) : Prop :=
  (∀ j, n ≤ j → f j = 0) ∧ (0 < n → ∃ b off, A = some ⟨b, off, none⟩ ∧ lo ≤ b ∧ b < hi ∧ ∀ j, j < n → w.cell? ⟨b, off + j, none⟩ = some (.int k ((f j : Nat) : Int)))

theorem Sq.below {k : IntKind} {w w' : World} {lo hi B : Nat} {A : Option Addr} {n : Nat} {f : Nat → Nat} (h : Sq k w lo hi A n f) (hb : Below B w w') (hB : hi ≤ B) : Sq k w' lo hi A n f :=
  ⟨h.1, fun hn => by
    obtain ⟨b, off, e, h1, h2, h3⟩ := h.2 hn
    exact ⟨b, off, e, h1, h2, fun j hj => (hb.cell (p := ⟨b, off + j, none⟩) (show b < B by omega)).trans (h3 j hj)⟩⟩

theorem Sq.wide {k : IntKind} {w : World} {lo hi lo' hi' : Nat} {A : Option Addr} {n : Nat} {f : Nat → Nat} (h : Sq k w lo hi A n f) (hl : lo' ≤ lo) (hh : hi ≤ hi') : Sq k w lo' hi' A n f :=
  ⟨h.1, fun hn => by
    obtain ⟨b, off, e, h1, h2, h3⟩ := h.2 hn
    exact ⟨b, off, e, by omega, by omega, h3⟩⟩

theorem Sq.nil (k : IntKind) (w : World) (lo hi : Nat) (A : Option Addr) : Sq k w lo hi A 0 (fun _ => 0) := ⟨fun _ _ => rfl, fun h => absurd h (by omega)⟩

theorem Sq.congr {k : IntKind} {w : World} {lo hi : Nat} {A : Option Addr} {n : Nat} {f g : Nat → Nat} (h : Sq k w lo hi A n f) (e : ∀ j, f j = g j) : Sq k w lo hi A n g := by
  have : f = g := funext e
  subst this
  exact h

theorem Sq.of_row {k : IntKind} {w : World} {b t c n lo hi : Nat} {f g : Nat → Nat} (h : w.rowIs b t c (ku k f)) (hn : n ≤ c) (hl : lo ≤ b) (hh : b < hi) (hg : ∀ j, n ≤ j → g j = 0) (he : ∀ j, j < n → f j = g j) :
    Sq k w lo hi (some ⟨b, 0, none⟩) n g :=
  ⟨hg, fun _ => ⟨b, 0, rfl, hl, hh, fun j hj => by
    rw [Nat.zero_add, h.cell (show j < c by omega)]
    simp only [ku, he j hj]⟩⟩

theorem rowIs_below {B : Nat} {w w' : World} {b t n : Nat} {F : Nat → Value} (h : w.rowIs b t n F) (hb : Below B w w') (hB : b < B) : w'.rowIs b t n F := h.of_block (hb.block b hB)

theorem rowIs_set_ku {k : IntKind} {w : World} {b t n : Nat} {f : Nat → Nat} (h : w.rowIs b t n (ku k f)) (i x : Nat) : (w.setCell ⟨b, i, none⟩ (.int k (x : Int))).rowIs b t n (ku k (fun j => if j = i then x else f j)) :=
  (h.set i _).congr fun j _ => by
    simp only [ku]
    split <;> rfl

/-- the length without the zeros at the end -/
def tl (f : Nat → Nat) : Nat → Nat
  | 0 => 0
  | n + 1 => if f n = 0 then tl f n else n + 1

theorem tl_le (f : Nat → Nat) : ∀ n, tl f n ≤ n
  | 0 => Nat.le_refl _
  | n + 1 => by
    unfold tl
    split
    · exact Nat.le_trans (tl_le f n) (Nat.le_succ n)
    · exact Nat.le_refl _
theorem tl_zero (f : Nat → Nat) : ∀ n j, tl f n ≤ j → j < n → f j = 0
  | 0, j, _, h => absurd h (Nat.not_lt_zero j)
  | n + 1, j, h1, h2 => by
    unfold tl at h1
    split at h1
    · rename_i h0
      rcases Nat.lt_or_ge j n with h | h
      · exact tl_zero f n j h1 h
      · rw [show j = n from by omega]; exact h0
    · omega
theorem tl_last (f : Nat → Nat) : ∀ n, 0 < tl f n → f (tl f n - 1) ≠ 0
  | 0, h => absurd h (Nat.lt_irrefl 0)
  | n + 1, h => by
    unfold tl at h ⊢
    split
    · rename_i h0
      rw [if_pos h0] at h
      exact tl_last f n h
    · rename_i h0
      exact h0
/-- whatever has these three properties is it -/
theorem tl_unique {f : Nat → Nat} {n k : Nat} (h1 : k ≤ n) (h2 : ∀ j, k ≤ j → j < n → f j = 0) (h3 : 0 < k → f (k - 1) ≠ 0) : tl f n = k := by
  rcases Nat.lt_trichotomy (tl f n) k with h | h | h
  · exact absurd (tl_zero f n (k - 1) (by omega) (by omega)) (h3 (by omega))
  · exact h
  · have := tl_le f n
    exact absurd (h2 (tl f n - 1) (by omega) (by omega)) (tl_last f n (by omega))
theorem tl_ext {f : Nat → Nat} {n m : Nat} (hn : ∀ j, n ≤ j → f j = 0) (hm : ∀ j, m ≤ j → f j = 0) : tl f n = tl f m := by
  refine tl_unique (k := tl f m) ?_ ?_ (tl_last f m)
  · rcases Nat.lt_or_ge n (tl f m) with h | h
    · have := tl_le f m
      exact absurd (hn (tl f m - 1) (by omega)) (tl_last f m (by omega))
    · exact h
  · intro j h1 _
    rcases Nat.lt_or_ge j m with h | h
    · exact tl_zero f m j h1 h
    · exact hm j h
theorem tl_congr {f g : Nat → Nat} (n : Nat) (h : ∀ j, j < n → f j = g j) : tl f n = tl g n := by
  refine tl_unique (tl_le g n) (fun j h1 h2 => (h j h2).trans (tl_zero g n j h1 h2)) fun h0 => ?_
  have := tl_le g n
  rw [h _ (by omega)]
  exact tl_last g n h0

/-- what a call that returns one new list leaves -/
def RetSl (w : World) (n : Nat) (F : Nat → Nat) (e : Ending) (w' : World) : Prop :=
  ∃ A c, e = .returned (.slice A n c) ∧ n ≤ c ∧ Sq .u32 w' w.heap.size w'.heap.size A n F ∧ Below w.heap.size w w'
end Go.Proofs.Ytkklacgoeopekaa

namespace Go.Proofs.Ytkklacgoeopekaa

/-- the sum of f i for i below n -/
def sumN (f : Nat → Nat) : Nat → Nat
  | 0 => 0
  | n + 1 => sumN f n + f n

theorem sumN_congr {f g : Nat → Nat} : ∀ n, (∀ i, i < n → f i = g i) → sumN f n = sumN g n
  | 0, _ => rfl
  | n + 1, h => by rw [sumN, sumN, sumN_congr n (fun i hi => h i (by omega)), h n (by omega)]
theorem sumN_zero {f : Nat → Nat} : ∀ n, (∀ i, i < n → f i = 0) → sumN f n = 0
  | 0, _ => rfl
  | n + 1, h => by rw [sumN, sumN_zero n (fun i hi => h i (by omega)), h n (by omega)]
theorem sumN_more {f : Nat → Nat} {n : Nat} : ∀ k, (∀ i, n ≤ i → i < n + k → f i = 0) → sumN f (n + k) = sumN f n
  | 0, _ => rfl
  | k + 1, h => by rw [← Nat.add_assoc, sumN, sumN_more k (fun i h1 h2 => h i h1 (by omega)), h (n + k) (by omega) (by omega), Nat.add_zero]

/-- the error of one polynomial -/
def chk (m n : Nat) (f : Nat → Nat) : Nat :=
  if m < 2 ∨ 2147483647 < m then 2 else if 256 < n then 3 else if (List.range n).any (fun j => decide (m ≤ f j)) || (decide (0 < n) && f (n - 1) == 0) then 2 else 0

theorem chk_zero {m n : Nat} {f : Nat → Nat} (h : chk m n f = 0) : 2 ≤ m ∧ m ≤ 2147483647 ∧ n ≤ 256 ∧ (∀ j, j < n → f j < m) ∧ (0 < n → f (n - 1) ≠ 0) := by
  unfold chk at h
  split at h
  · omega
  · split at h
    · omega
    · split at h
      · omega
      · rename_i h1 h2 h3
        simp only [Bool.or_eq_true, List.any_eq_true, List.mem_range, decide_eq_true_eq, Bool.and_eq_true, beq_iff_eq, not_or, not_exists, not_and] at h3
        refine ⟨by omega, by omega, by omega, fun j hj => ?_, fun hn => h3.2 hn⟩
        have := h3.1 j hj
        omega
theorem chk_ok {m n : Nat} {f : Nat → Nat} (h1 : 2 ≤ m) (h2 : m ≤ 2147483647) (h3 : n ≤ 256) (h4 : ∀ j, j < n → f j < m) (h5 : 0 < n → f (n - 1) ≠ 0) : chk m n f = 0 := by
  unfold chk
  rw [if_neg (by omega), if_neg (by omega), if_neg]
  simp only [Bool.or_eq_true, List.any_eq_true, List.mem_range, decide_eq_true_eq, Bool.and_eq_true, beq_iff_eq, not_or, not_exists, not_and]
  exact ⟨fun j hj => by have := h4 j hj; omega, fun h => h5 h⟩
theorem chk_m {m n : Nat} {f : Nat → Nat} (h : m < 2 ∨ 2147483647 < m) : chk m n f = 2 := by unfold chk; rw [if_pos h]
theorem chk_long {m n : Nat} {f : Nat → Nat} (h1 : 2 ≤ m) (h2 : m ≤ 2147483647) (h3 : 256 < n) : chk m n f = 3 := by
  unfold chk
  rw [if_neg (by omega), if_pos h3]
theorem chk_big {m n j : Nat} {f : Nat → Nat} (h1 : 2 ≤ m) (h2 : m ≤ 2147483647) (h3 : n ≤ 256) (h4 : j < n) (h5 : m ≤ f j) : chk m n f = 2 := by
  unfold chk
  rw [if_neg (by omega), if_neg (by omega), if_pos]
  simp only [Bool.or_eq_true, List.any_eq_true, List.mem_range, decide_eq_true_eq]
  exact .inl ⟨j, h4, h5⟩
theorem chk_last {m n : Nat} {f : Nat → Nat} (h1 : 2 ≤ m) (h2 : m ≤ 2147483647) (h3 : n ≤ 256) (h4 : 0 < n) (h5 : f (n - 1) = 0) : chk m n f = 2 := by
  unfold chk
  rw [if_neg (by omega), if_neg (by omega), if_pos]
  simp only [Bool.or_eq_true, Bool.and_eq_true, decide_eq_true_eq, beq_iff_eq]
  exact .inr ⟨h4, h5⟩
theorem chk_cases (m n : Nat) (f : Nat → Nat) : chk m n f = 0 ∨ chk m n f = 2 ∨ chk m n f = 3 := by
  unfold chk
  split
  · exact .inr (.inl rfl)
  · split
    · exact .inr (.inr rfl)
    · split
      · exact .inr (.inl rfl)
      · exact .inl rfl

/-- the error of two -/
def chk2 (m n : Nat) (a : Nat → Nat) (nb : Nat) (b : Nat → Nat) : Nat := if chk m n a = 0 then chk m nb b else chk m n a

theorem chk2_zero {m n nb : Nat} {a b : Nat → Nat} (h : chk2 m n a nb b = 0) : chk m n a = 0 ∧ chk m nb b = 0 := by
  unfold chk2 at h
  split at h
  · exact ⟨by assumption, h⟩
  · rename_i h0; exact absurd h h0

/-- two lists are equal -/
def sameB (n : Nat) (a : Nat → Nat) (nb : Nat) (b : Nat → Nat) : Bool := n == nb && (List.range n).all fun j => a j == b j

theorem sameB_true {n nb : Nat} {a b : Nat → Nat} : sameB n a nb b = true ↔ n = nb ∧ ∀ j, j < n → a j = b j := by
  unfold sameB
  simp only [Bool.and_eq_true, beq_iff_eq, List.all_eq_true, List.mem_range]
theorem sameB_refl (n : Nat) (a : Nat → Nat) : sameB n a n a = true := sameB_true.2 ⟨rfl, fun _ _ => rfl⟩

theorem sameB_ne1 {n nb : Nat} {a b : Nat → Nat} (h : n ≠ nb) : sameB n a nb b = false := by
  cases e : sameB n a nb b
  · rfl
  · exact absurd (sameB_true.1 e).1 h
theorem sameB_ne2 {n k : Nat} {a b : Nat → Nat} (hk : k < n) (h : a k ≠ b k) : sameB n a n b = false := by
  cases e : sameB n a n b
  · rfl
  · exact absurd ((sameB_true.1 e).2 k hk) h

/-- the coefficients of a sum, a difference, a product -/
def addF (m : Nat) (a b : Nat → Nat) : Nat → Nat := fun j => (a j + b j) % m
def subF (m : Nat) (a b : Nat → Nat) : Nat → Nat := fun j => (a j + m - b j) % m
def mulF (m : Nat) (a b : Nat → Nat) : Nat → Nat := fun k => sumN (fun t => a t * b (k - t)) (k + 1) % m

/-- the first i terms of a product's coefficient j -/
def pS (a b : Nat → Nat) (i j : Nat) : Nat := sumN (fun t => if t ≤ j then a t * b (j - t) else 0) i

theorem pS_succ_hit {a b : Nat → Nat} {i j : Nat} (h : i ≤ j) : pS a b (i + 1) j = pS a b i j + a i * b (j - i) := by
  unfold pS
  rw [sumN, if_pos h]
theorem pS_succ_miss {a b : Nat → Nat} {i j : Nat} (h : j < i ∨ b (j - i) = 0) : pS a b (i + 1) j = pS a b i j := by
  unfold pS
  rw [sumN]
  split
  · rcases h with h | h
    · omega
    · rw [h, Nat.mul_zero, Nat.add_zero]
  · rw [Nat.add_zero]
theorem pS_full {a b : Nat → Nat} {n : Nat} (ha : ∀ j, n ≤ j → a j = 0) (j : Nat) : pS a b n j = sumN (fun t => a t * b (j - t)) (j + 1) := by
  unfold pS
  have e1 : sumN (fun t => if t ≤ j then a t * b (j - t) else 0) (j + 1) = sumN (fun t => a t * b (j - t)) (j + 1) := sumN_congr _ fun i hi => if_pos (by omega)
  rw [← e1]
  rcases Nat.le_total n (j + 1) with h | h
  · obtain ⟨d, hd⟩ := Nat.exists_eq_add_of_le h
    rw [hd]
    refine (sumN_more d fun i h1 _ => ?_).symm
    rw [ha i h1]
    simp
  · obtain ⟨d, hd⟩ := Nat.exists_eq_add_of_le h
    rw [hd]
    refine sumN_more d fun i h1 _ => ?_
    rw [if_neg (by omega)]

theorem mulF_lt {m : Nat} (hm : 0 < m) (a b : Nat → Nat) (j : Nat) : mulF m a b j < m := Nat.mod_lt _ hm
theorem mulF_ext {m n nb : Nat} {a b : Nat → Nat} (ha : ∀ j, n ≤ j → a j = 0) (hb : ∀ j, nb ≤ j → b j = 0) (j : Nat) (hj : n + nb ≤ j + 1) : mulF m a b j = 0 := by
  unfold mulF
  rw [sumN_zero]
  · exact Nat.zero_mod m
  · intro t ht
    rcases Nat.lt_or_ge t n with h | h
    · rw [hb (j - t) (by omega), Nat.mul_zero]
    · rw [ha t h, Nat.zero_mul]

theorem mulF_zero {m : Nat} {a b : Nat → Nat} (h : (∀ j, a j = 0) ∨ (∀ j, b j = 0)) (j : Nat) : mulF m a b j = 0 := by
  unfold mulF
  rw [sumN_zero]
  · exact Nat.zero_mod m
  · intro t _
    rcases h with h | h
    · rw [h, Nat.zero_mul]
    · rw [h, Nat.mul_zero]
theorem tl_zeros {f : Nat → Nat} (h : ∀ j, f j = 0) (n : Nat) : tl f n = 0 := tl_unique (Nat.zero_le _) (fun j _ _ => h j) fun h => absurd h (Nat.lt_irrefl 0)

/-- the inverse of a modulo m, where there is one -/
def invN (a m : Nat) : Nat := ((List.range m).find? fun r => r * a % m == 1 % m).getD 0

theorem inv_unique {a m r s : Nat} (hr : r < m) (hs : s < m) (h1 : r * a % m = 1 % m) (h2 : s * a % m = 1 % m) : r = s := by
  have key : r * (s * a) % m = s * (r * a) % m := by rw [Nat.mul_left_comm]
  have e1 : r * (s * a) % m = r := by rw [Nat.mul_mod, h2, ← Nat.mul_mod, Nat.mul_one, Nat.mod_eq_of_lt hr]
  have e2 : s * (r * a) % m = s := by rw [Nat.mul_mod, h1, ← Nat.mul_mod, Nat.mul_one, Nat.mod_eq_of_lt hs]
  exact e1.symm.trans (key.trans e2)

theorem invN_eq {a m r : Nat} (hr : r < m) (h : r * a % m = 1 % m) : invN a m = r := by
  unfold invN
  cases hf : (List.range m).find? fun r => r * a % m == 1 % m with
  | none =>
    have := List.find?_eq_none.1 hf r (List.mem_range.2 hr)
    simp [h] at this
  | some s =>
    have h1 := List.find?_some hf
    have h2 := List.mem_range.1 (List.mem_of_find?_eq_some hf)
    exact (inv_unique hr h2 h (by simpa using h1)).symm

/-! ### division -/
def dC (m nb iv : Nat) (i : Nat) (r : Nat → Nat) : Nat := r (i + nb - 1) * iv % m
def dStep (m nb : Nat) (b : Nat → Nat) (iv : Nat) (i : Nat) (r : Nat → Nat) : Nat → Nat := fun j => if i ≤ j then (r j + (m - dC m nb iv i r) * b (j - i)) % m else r j
def dR (m nb : Nat) (b : Nat → Nat) (iv : Nat) : Nat → (Nat → Nat) → (Nat → Nat)
  | 0, r => r
  | i + 1, r => dR m nb b iv i (dStep m nb b iv i r)
def dQ (m nb : Nat) (b : Nat → Nat) (iv : Nat) : Nat → (Nat → Nat) → (Nat → Nat)
  | 0, _ => fun _ => 0
  | i + 1, r => fun j => if j = i then dC m nb iv i r else dQ m nb b iv i (dStep m nb b iv i r) j

theorem dStep_lt {m nb iv i : Nat} {b r : Nat → Nat} (hm : 0 < m) (hr : ∀ j, r j < m) (j : Nat) : dStep m nb b iv i r j < m := by
  unfold dStep
  split
  · exact Nat.mod_lt _ hm
  · exact hr j
theorem dR_lt {m nb iv : Nat} {b : Nat → Nat} (hm : 0 < m) : ∀ i (r : Nat → Nat), (∀ j, r j < m) → ∀ j, dR m nb b iv i r j < m
  | 0, _, h => h
  | i + 1, _, h => dR_lt hm i _ (dStep_lt hm h)
theorem dQ_out {m nb iv : Nat} {b : Nat → Nat} : ∀ i (r : Nat → Nat) j, i ≤ j → dQ m nb b iv i r j = 0
  | 0, _, _, _ => rfl
  | i + 1, r, j, h => by
    simp only [dQ]
    rw [if_neg (by omega)]
    exact dQ_out i _ j (by omega)
theorem dQ_lt {m nb iv : Nat} {b : Nat → Nat} (hm : 0 < m) : ∀ i (r : Nat → Nat) j, dQ m nb b iv i r j < m
  | 0, _, _ => hm
  | i + 1, r, j => by
    simp only [dQ]
    split
    · exact Nat.mod_lt _ hm
    · exact dQ_lt hm i _ j
/-- where the leading element is 0 already, nothing is done -/
theorem dStep_zero {m nb iv i : Nat} {b r : Nat → Nat} (hr : ∀ j, r j < m) (h0 : r (i + nb - 1) = 0) : dStep m nb b iv i r = r := by
  funext j
  unfold dStep dC
  rw [h0, Nat.zero_mul, Nat.zero_mod, Nat.sub_zero]
  split
  · rw [Nat.add_mul_mod_self_left, Nat.mod_eq_of_lt (hr j)]
  · rfl
/-- a step that has the inverse takes the leading element away -/
theorem dStep_lead {m nb iv i : Nat} {b r : Nat → Nat} (hm : 0 < m) (hnb : 0 < nb) (hiv : iv * b (nb - 1) % m = 1 % m) (_hr : ∀ j, r j < m) : dStep m nb b iv i r (i + nb - 1) = 0 := by
  unfold dStep
  rw [if_pos (by omega), show i + nb - 1 - i = nb - 1 from by omega]
  have hc : dC m nb iv i r < m := Nat.mod_lt _ hm
  have e : dC m nb iv i r * b (nb - 1) % m = r (i + nb - 1) % m := by
    unfold dC
    rw [Nat.mul_mod, Nat.mod_mod, ← Nat.mul_mod, Nat.mul_assoc, Nat.mul_mod, hiv, ← Nat.mul_mod, Nat.mul_one]
  have key : ((r (i + nb - 1) + (m - dC m nb iv i r) * b (nb - 1)) + dC m nb iv i r * b (nb - 1)) % m = r (i + nb - 1) % m := by
    rw [Nat.add_assoc, ← Nat.add_mul, Nat.sub_add_cancel (Nat.le_of_lt hc), Nat.add_mul_mod_self_left]
  have key2 : ((r (i + nb - 1) + (m - dC m nb iv i r) * b (nb - 1)) % m + r (i + nb - 1) % m) % m = (0 + r (i + nb - 1) % m) % m := by
    rw [← e, ← Nat.add_mod, key, e, Nat.zero_add, Nat.mod_mod]
  have h1 : (r (i + nb - 1) + (m - dC m nb iv i r) * b (nb - 1)) % m < m := Nat.mod_lt _ hm
  have h2 : r (i + nb - 1) % m < m := Nat.mod_lt _ hm
  generalize (r (i + nb - 1) + (m - dC m nb iv i r) * b (nb - 1)) % m = x at *
  generalize r (i + nb - 1) % m = y at *
  rw [Nat.zero_add, Nat.mod_eq_of_lt h2] at key2
  rcases Nat.lt_or_ge (x + y) m with h | h
  · rw [Nat.mod_eq_of_lt h] at key2
    omega
  · rw [Nat.mod_eq_sub_mod h, Nat.mod_eq_of_lt (by omega)] at key2
    omega
theorem dStep_out {m nb iv i : Nat} {b r : Nat → Nat} (hb : ∀ j, nb ≤ j → b j = 0) (hr : ∀ j, r j < m) {j : Nat} (h : i + nb ≤ j) : dStep m nb b iv i r j = r j := by
  unfold dStep
  rw [if_pos (by omega), hb _ (by omega), Nat.mul_zero, Nat.add_zero, Nat.mod_eq_of_lt (hr j)]
/-- leading zeros may be passed over -/
theorem dR_skip {m nb iv : Nat} {b : Nat → Nat} {k : Nat} : ∀ d (r : Nat → Nat), (∀ j, r j < m) → (∀ j, k + nb - 1 ≤ j → r j = 0) → 0 < nb → dR m nb b iv (k + d) r = dR m nb b iv k r ∧ dQ m nb b iv (k + d) r = dQ m nb b iv k r
  | 0, _, _, _, _ => ⟨rfl, rfl⟩
  | d + 1, r, h1, h2, h3 => by
    have e := dStep_zero (b := b) (iv := iv) (i := k + d) (nb := nb) h1 (h2 _ (by omega))
    have ih := dR_skip (b := b) (iv := iv) (k := k) d r h1 h2 h3
    rw [← Nat.add_assoc, dR, dQ, e]
    refine ⟨ih.1, funext fun j => ?_⟩
    split
    · rename_i hj
      subst hj
      rw [dQ_out k r _ (by omega)]
      unfold dC
      rw [h2 _ (by omega), Nat.zero_mul, Nat.zero_mod]
    · rw [ih.2]
theorem dR_high {m nb iv : Nat} {b : Nat → Nat} (hm : 0 < m) (hnb : 0 < nb) (hiv : iv * b (nb - 1) % m = 1 % m) (hb : ∀ j, nb ≤ j → b j = 0) :
    ∀ i (r : Nat → Nat), (∀ j, r j < m) → (∀ j, i + nb - 1 ≤ j → r j = 0) → ∀ j, nb - 1 ≤ j → dR m nb b iv i r j = 0
  | 0, _, _, h2, j, hj => h2 j (by omega)
  | i + 1, r, h1, h2, j, hj => by
    rw [dR]
    refine dR_high hm hnb hiv hb i _ (dStep_lt hm h1) (fun t ht => ?_) j hj
    rcases Nat.lt_or_ge (i + nb - 1) t with h | h
    · rw [dStep_out hb h1 (by omega)]
      exact h2 t (by omega)
    · rw [show t = i + nb - 1 from by omega]
      exact dStep_lead hm hnb hiv h1
end Go.Proofs.Ytkklacgoeopekaa

namespace Go.Proofs.Ytkklacgoeopekaa

/-- what holds at each round's head: x and y are the rests, u a = x and v a = y modulo m -/
structure EI (m a x y : Nat) (u v : Int) : Prop where
  lt : y < x
  le : x ≤ m
  gcd : Nat.gcd x y = Nat.gcd m a
  hu : ∃ s : Int, u * a = x + s * m
  hv : ∃ s : Int, v * a = y + s * m
  det : (v * x - u * y = m ∧ u ≤ 0 ∧ 0 ≤ v) ∨ (v * x - u * y = -(m : Int) ∧ 0 ≤ u ∧ v ≤ 0)
  small : -(m : Int) ≤ 2 * u ∧ 2 * u ≤ m
  top : -(m : Int) ≤ v ∧ v ≤ m

theorem EI.start {m a : Nat} (ha : a < m) : EI m a m a 0 1 :=
  ⟨ha, Nat.le_refl m, rfl, ⟨-1, by omega⟩, ⟨0, by omega⟩, .inl ⟨by omega, by omega, by omega⟩, by omega, by omega⟩

theorem EI.step {m a x y : Nat} {u v : Int} (h : EI m a x y u v) (hy : 0 < y) : EI m a y (x % y) v (u - (x : Int) / (y : Int) * v) := by
  obtain ⟨h1, h2, h3, ⟨s, hs⟩, ⟨t, ht⟩, h6, h7, h8⟩ := h
  have hq : (x : Int) / (y : Int) * (y : Int) + (x : Int) % (y : Int) = x := by rw [Int.mul_comm]; exact Int.mul_ediv_add_emod _ _
  have hmod : ((x % y : Nat) : Int) = (x : Int) % (y : Int) := Int.natCast_emod x y
  have hlt := Nat.mod_lt x hy
  obtain ⟨q, hqd⟩ : ∃ q : Int, (x : Int) / (y : Int) = q := ⟨_, rfl⟩
  have hq0 : 0 ≤ q := by rw [← hqd]; exact Int.ediv_nonneg (Int.natCast_nonneg _) (Int.natCast_nonneg _)
  rw [hqd] at hq ⊢
  obtain ⟨r, hr⟩ : ∃ r, x % y = r := ⟨_, rfl⟩
  rw [← hmod] at hq
  rw [hr] at hq hlt ⊢
  -- the determinant turns its sign
  have hdet : (u - q * v) * (y : Int) - v * (r : Int) = -(v * x - u * y) := by
    rw [← hq, Int.sub_mul, Int.mul_add, Int.mul_comm v (q * (y : Int)), Int.mul_right_comm q (y : Int) v]
    omega
  have hx2 : (2 : Int) ≤ x := by omega
  have hy1 : (1 : Int) ≤ y := by omega
  have hr0 : (0 : Int) ≤ r := Int.natCast_nonneg r
  refine ⟨hlt, by omega, ?_, ⟨t, ht⟩, ⟨s - q * t, ?_⟩, ?_, ?_, ?_⟩
  · rw [← hr, Nat.gcd_comm y, ← Nat.gcd_rec, Nat.gcd_comm, h3]
  · rw [Int.sub_mul, hs, Int.mul_assoc, ht, Int.mul_add, Int.sub_mul, ← hq, Int.mul_assoc]
    omega
  · rcases h6 with ⟨e, e1, e2⟩ | ⟨e, e1, e2⟩
    · exact .inr ⟨by rw [hdet, e], e2, by have := Int.mul_nonneg hq0 e2; omega⟩
    · refine .inl ⟨by rw [hdet, e]; omega, e2, ?_⟩
      have := Int.mul_nonneg hq0 (show 0 ≤ -v by omega)
      rw [Int.mul_neg] at this
      omega
  · rcases h6 with ⟨e, e1, e2⟩ | ⟨e, e1, e2⟩
    · have a1 := Int.mul_nonneg (show 0 ≤ -u by omega) (show (0 : Int) ≤ y by omega)
      have a2 := Int.mul_nonneg e2 (show (0 : Int) ≤ x - 2 by omega)
      rw [Int.neg_mul] at a1
      rw [Int.mul_sub] at a2
      omega
    · have a1 := Int.mul_nonneg e1 (show (0 : Int) ≤ y by omega)
      have a2 := Int.mul_nonneg (show 0 ≤ -v by omega) (show (0 : Int) ≤ x - 2 by omega)
      rw [Int.mul_sub, Int.neg_mul, Int.neg_mul] at a2
      omega
  · have key : (u - q * v) * (y : Int) - v * (r : Int) = -(v * x - u * y) := hdet
    obtain ⟨z, hz⟩ : ∃ z, u - q * v = z := ⟨_, rfl⟩
    rw [hz] at key ⊢
    rcases h6 with ⟨e, e1, e2⟩ | ⟨e, e1, e2⟩
    · have hz0 : z ≤ 0 := by have := Int.mul_nonneg hq0 e2; omega
      have a1 := Int.mul_nonneg (show 0 ≤ -z by omega) (show (0 : Int) ≤ y - 1 by omega)
      have a2 := Int.mul_nonneg e2 hr0
      rw [Int.mul_sub, Int.neg_mul, Int.neg_mul] at a1
      omega
    · have hz0 : 0 ≤ z := by
        have := Int.mul_nonneg hq0 (show 0 ≤ -v by omega)
        rw [Int.mul_neg] at this
        omega
      have a1 := Int.mul_nonneg hz0 (show (0 : Int) ≤ y - 1 by omega)
      have a2 := Int.mul_nonneg (show 0 ≤ -v by omega) hr0
      rw [Int.mul_sub] at a1
      rw [Int.neg_mul] at a2
      omega

/-- the products that the program computes on the way, and their bounds -/
theorem EI.bounds {m a x y : Nat} {u v : Int} (h : EI m a x y u v) (hy : 0 < y) : 0 ≤ (x : Int) / (y : Int) * (y : Int) ∧ (x : Int) / (y : Int) * (y : Int) ≤ x ∧ -(2 * (m : Int)) ≤ (x : Int) / (y : Int) * v ∧ (x : Int) / (y : Int) * v ≤ 2 * (m : Int) ∧
    (x : Int) - (x : Int) / (y : Int) * (y : Int) = ((x % y : Nat) : Int) := by
  have hs := h.step hy
  have h1 := hs.top
  have h2 := h.small
  have hq : (x : Int) / (y : Int) * (y : Int) + (x : Int) % (y : Int) = x := by rw [Int.mul_comm]; exact Int.mul_ediv_add_emod _ _
  have hmod : ((x % y : Nat) : Int) = (x : Int) % (y : Int) := Int.natCast_emod x y
  have hn : 0 ≤ (x : Int) / (y : Int) * (y : Int) := Int.mul_nonneg (Int.ediv_nonneg (Int.natCast_nonneg _) (Int.natCast_nonneg _)) (Int.natCast_nonneg _)
  refine ⟨hn, by omega, by omega, by omega, by omega⟩

theorem quo_bounds (x y : Nat) : 0 ≤ (x : Int) / (y : Int) ∧ (x : Int) / (y : Int) ≤ x :=
  ⟨Int.ediv_nonneg (Int.natCast_nonneg _) (Int.natCast_nonneg _), Int.ediv_le_self _ (Int.natCast_nonneg _)⟩

/-- at the end: the rest is the greatest common divisor, and u the inverse if that is 1 -/
theorem EI.end_ {m a x : Nat} {u v : Int} (h : EI m a x 0 u v) : x = Nat.gcd m a := by rw [← h.gcd, Nat.gcd_zero_right]
theorem EI.inv {m a : Nat} {u v : Int} (h : EI m a 1 0 u v) (hm : 2 ≤ m) : 0 ≤ (if u < 0 then u + m else u) ∧ (if u < 0 then u + m else u) < m ∧ ((invN a m : Nat) : Int) = (if u < 0 then u + m else u) := by
  have h2 := h.small
  obtain ⟨s, hs⟩ := h.hu
  have hr0 : 0 ≤ (if u < 0 then u + m else u) := by split <;> omega
  have hr1 : (if u < 0 then u + m else u) < m := by split <;> omega
  have hr2 : ∃ t : Int, (if u < 0 then u + m else u) * a = 1 + t * m := by
    split
    · exact ⟨s + a, by rw [Int.add_mul, hs, Int.add_mul, Int.mul_comm (a : Int)]; simp only [Int.natCast_one]; omega⟩
    · exact ⟨s, by rw [hs]; rfl⟩
  obtain ⟨r, hr⟩ := Int.eq_ofNat_of_zero_le hr0
  obtain ⟨t, ht⟩ := hr2
  rw [hr] at hr1 ht ⊢
  refine ⟨Int.natCast_nonneg r, hr1, ?_⟩
  congr 1
  refine invN_eq (by omega) ?_
  have e1 : ((r * a % m : Nat) : Int) = ((1 % m : Nat) : Int) := by
    rw [Int.natCast_emod, Int.natCast_emod, Int.natCast_mul, ht, Int.add_mul_emod_self_right]
    rfl
  exact Int.ofNat_inj.1 e1

theorem invN_spec {a m : Nat} (ha : a < m) (hm : 2 ≤ m) (hg : Nat.gcd m a = 1) : invN a m < m ∧ invN a m * a % m = 1 % m := by
  -- run Euclid's rule
  have run : ∀ k x y (u v : Int), y ≤ k → EI m a x y u v → ∃ x' u' v', EI m a x' 0 u' v' := by
    intro k
    induction k with
    | zero =>
      intro x y u v hy h
      obtain rfl : y = 0 := by omega
      exact ⟨x, u, v, h⟩
    | succ k ih =>
      intro x y u v hy h
      rcases Nat.eq_zero_or_pos y with h0 | h0
      · subst h0
        exact ⟨x, u, v, h⟩
      · exact ih _ _ _ _ (by have := Nat.mod_lt x h0; omega) (h.step h0)
  obtain ⟨x, u, v, h⟩ := run a m a 0 1 (Nat.le_refl a) (EI.start ha)
  obtain rfl : x = 1 := h.end_.trans hg
  have hi := h.inv hm
  have h2 := h.small
  obtain ⟨s, hs⟩ := h.hu
  refine ⟨by omega, ?_⟩
  have e1 : ((invN a m * a % m : Nat) : Int) = ((1 % m : Nat) : Int) := by
    rw [Int.natCast_emod, Int.natCast_emod, Int.natCast_mul, hi.2.2]
    split
    · rw [Int.add_mul, hs, Int.mul_comm (m : Int), Int.add_mul_emod_self_right, Int.add_mul_emod_self_right]
    · rw [hs, Int.add_mul_emod_self_right]
  exact Int.ofNat_inj.1 e1
end Go.Proofs.Ytkklacgoeopekaa

namespace Go.Proofs.Ytkklacgoeopekaa
open Go.RowKit

/-- t is the type of slices of e, numbers of kind k of so many bytes -/
structure ElemOf (P : Program) (t e : TypeId) (k : IntKind) (bytes : Nat) : Prop where
  ht : P.underlying t = some (.slice e)
  hi : (P.info? e).map (fun i => (i.zero, i.size, i.bytes)) = some (some (.int k 0), 1, bytes)

theorem ElemOf.size {P : Program} {t e : TypeId} {k : IntKind} {bytes : Nat} (h : ElemOf P t e k bytes) : (P.info? e).map (·.size) = some 1 := by
  obtain ⟨i, hi, hz⟩ := Option.map_eq_some_iff.1 h.hi
  simp only [Prod.mk.injEq] at hz
  rw [hi]
  simp [hz.2.1]

theorem ku_oneCell (k : IntKind) (f : Nat → Nat) (n : Nat) : ∀ u ∈ (List.range n).map (ku k f), u.oneCell' = true := by
  intro u hu
  obtain ⟨j, _, rfl⟩ := List.mem_map.1 hu
  rfl

/-- the slice (A, n, c) is the call's own (its block lies from base on) and reads as f -/
def Own (k : IntKind) (w : World) (base e : Nat) (A : Option Addr) (n c : Nat) (f : Nat → Nat) : Prop :=
  (∀ j, n ≤ j → f j = 0) ∧ w.ownsRow base e 1 (.slice A n c) n ((List.range n).map (ku k f))

theorem Own.nil (k : IntKind) (w : World) (base e : Nat) : Own k w base e none 0 0 (fun _ => 0) := ⟨fun _ _ => rfl, World.ownsRow_nil w base e 1⟩

theorem Own.cases {k : IntKind} {w : World} {base e n c : Nat} {A : Option Addr} {f : Nat → Nat} (h : Own k w base e A n c f) :
    (A = none ∧ n = 0 ∧ c = 0) ∨ ∃ g, A = some ⟨g, 0, none⟩ ∧ base ≤ g ∧ g < w.heap.size ∧ n ≤ c ∧ c ≤ maxLen ∧ (∀ j, j < n → w.cell? ⟨g, j, none⟩ = some (ku k f j)) ∧ (∀ j, w.frozen? ⟨g, j, none⟩ = false) := by
  rcases h.2.2 with ⟨hv, hn⟩ | ⟨g, cap, cur, hv, hb, hh, hnc, hm, hs, ht⟩
  · injection hv with h1 h2 h3
    exact .inl ⟨h1, h2, h3⟩
  · injection hv with h1 h2 h3
    subst h1 h3
    refine .inr ⟨g, rfl, hb, ?_, hnc, hm, fun j hj => ?_, fun j => ?_⟩
    · exact (Array.getElem?_eq_some_iff.1 hh).1
    · rw [h.2.cellAt j (by omega)]
      simp [hj]
    · exact h.2.frozenAt j

theorem Own.le {k : IntKind} {w : World} {base e n c : Nat} {A : Option Addr} {f : Nat → Nat} (h : Own k w base e A n c f) : n ≤ c := by
  rcases h.cases with ⟨_, h1, h2⟩ | ⟨g, _, _, _, h3, _⟩ <;> omega

theorem Own.sq {k : IntKind} {w : World} {base e n c lo : Nat} {A : Option Addr} {f : Nat → Nat} (h : Own k w base e A n c f) (hl : lo ≤ base) : Sq k w lo w.heap.size A n f :=
  ⟨h.1, fun hn => by
    rcases h.cases with ⟨_, h1, _⟩ | ⟨g, rfl, hb, hg, _, _, hc, _⟩
    · omega
    · exact ⟨g, 0, rfl, by omega, hg, fun j hj => by rw [Nat.zero_add, hc j hj]; rfl⟩⟩

theorem Own.of_block {k : IntKind} {w w' : World} {base e n c : Nat} {A : Option Addr} {f : Nat → Nat} (h : Own k w base e A n c f)
    (hk : ∀ g, base ≤ g → g < w.heap.size → A = some ⟨g, 0, none⟩ → w'.heap[g]? = w.heap[g]?) : Own k w' base e A n c f := by
  refine ⟨h.1, h.2.1, ?_⟩
  rcases h.2.2 with h1 | ⟨g, cap, cur, hv, hb, hh, hr⟩
  · exact .inl h1
  · injection hv with h1 h2 h3
    exact .inr ⟨g, cap, cur, by rw [h1, h3], hb, (hk g hb (Array.getElem?_eq_some_iff.1 hh).1 h1).trans hh, hr⟩

theorem Own.below {k : IntKind} {w w' : World} {base e n c B : Nat} {A : Option Addr} {f : Nat → Nat} (h : Own k w base e A n c f) (hb : Below B w w') (hB : w.heap.size ≤ B) : Own k w' base e A n c f :=
  h.of_block fun g _ hg _ => hb.block g (by omega)

theorem Own.alloc {k : IntKind} {w : World} {base e n c : Nat} {A : Option Addr} {f : Nat → Nat} (h : Own k w base e A n c f) (o : Obj) : Own k (w.alloc o) base e A n c f :=
  h.of_block fun g _ hg _ => Below.heap_alloc w o g hg

theorem Own.grown {k : IntKind} {w w' : World} {base e n c : Nat} {A : Option Addr} {f : Nat → Nat} {row : Option Nat} (h : Own k w base e A n c f) (hg : w.grownBy w' row) (hne : ∀ g, A = some ⟨g, 0, none⟩ → row ≠ some g) : Own k w' base e A n c f :=
  h.of_block fun g _ hlt hA => hg.block g hlt fun e => hne g hA e.symm

theorem Own.base {k : IntKind} {w : World} {base base' e n c : Nat} {A : Option Addr} {f : Nat → Nat} (h : Own k w base e A n c f) (hb : base' ≤ base) : Own k w base' e A n c f := by
  refine ⟨h.1, h.2.1, ?_⟩
  rcases h.2.2 with h1 | ⟨g, cap, cur, hv, hg, hr⟩
  · exact .inl h1
  · exact .inr ⟨g, cap, cur, hv, by omega, hr⟩

theorem Own.congr {k : IntKind} {w : World} {base e n c : Nat} {A : Option Addr} {f g : Nat → Nat} (h : Own k w base e A n c f) (hg : ∀ j, f j = g j) : Own k w base e A n c g := by
  have : f = g := funext hg
  subst this
  exact h

/-- a row of the call's own, whole -/
theorem Own.of_row {k : IntKind} {w : World} {base e b c n : Nat} {f g : Nat → Nat} (h : w.rowIs b e c (ku k f)) (hb : base ≤ b) (hn : n ≤ c) (hc : c ≤ maxLen) (hg : ∀ j, n ≤ j → g j = 0) (he : ∀ j, j < n → f j = g j) :
    Own k w base e (some ⟨b, 0, none⟩) n c g := by
  obtain ⟨cs, hh, hs, hcs⟩ := h
  refine ⟨hg, by simp, .inr ⟨b, c, cs, rfl, hb, hh, hn, hc, by omega, ?_⟩⟩
  apply List.ext_getElem?
  intro j
  by_cases hj : j < n
  · rw [List.getElem?_take_of_lt (by omega), Array.getElem?_toList, hcs j (by omega), List.getElem?_map, List.getElem?_range hj]
    simp [ku, he j hj]
  · rw [List.getElem?_eq_none (by simp; omega), List.getElem?_eq_none (by simp; omega)]

theorem mul_lt_of {x c m : Nat} (h1 : x < m) (h2 : c < m) (hm : m ≤ 2147483647) : x * c ≤ 4611686009837453316 := by
  have := Nat.mul_le_mul (show x ≤ 2147483646 by omega) (show c ≤ 2147483646 by omega)
  omega

theorem mul_lt_int {x c m : Nat} (h1 : x < m) (h2 : c < m) (hm : m ≤ 2147483647) : (x : Int) * (c : Int) ≤ 4611686009837453316 := by
  have := mul_lt_of h1 h2 hm
  omega
theorem ret_slice {A : Option Addr} {n n' c : Nat} (h : n = n') : Ending.returned (.slice A n c) = .returned (.slice A n' c) := by rw [h]
theorem sq_n {k : IntKind} {w : World} {lo hi n n' : Nat} {A : Option Addr} {f : Nat → Nat} (h : Sq k w lo hi A n f) (e : n = n') : Sq k w lo hi A n' f := by subst e; exact h
theorem sq_tl {k : IntKind} {w : World} {lo hi n : Nat} {A : Option Addr} {f : Nat → Nat} (h : Sq k w lo hi A n f) : Sq k w lo hi A (tl f n) f := by
  have hle := tl_le f n
  refine ⟨fun j hj => ?_, fun hn => ?_⟩
  · rcases Nat.lt_or_ge j n with h1 | h1
    · exact tl_zero f n j hj h1
    · exact h.1 j h1
  · obtain ⟨b, off, e, h1, h2, h3⟩ := h.2 (by omega)
    exact ⟨b, off, e, h1, h2, fun j hj => h3 j (by omega)⟩
theorem rowIs_n {w : World} {b t n n' : Nat} {F : Nat → Value} (h : w.rowIs b t n F) (e : n = n') : w.rowIs b t n' F := by subst e; exact h

/-- a slice of the call's own that fills its block is a row -/
theorem Own.row {k : IntKind} {w : World} {base e g n : Nat} {f : Nat → Nat} (h : Own k w base e (some ⟨g, 0, none⟩) n n f) : w.rowIs g e n (ku k f) := by
  rcases h.2.2 with ⟨hv, _⟩ | ⟨g', cap, cur, hv, hb, hh, hnc, hm, hs, ht⟩
  · cases hv
  · injection hv with h1 h2 h3
    injection h1 with h1
    injection h1 with h1
    subst h1 h3
    refine ⟨cur, hh, by omega, fun j hj => ?_⟩
    have e1 : cur.toList[j]? = (cur.toList.take (n * 1))[j]? := by rw [List.getElem?_take_of_lt (by omega)]
    rw [← Array.getElem?_toList, e1, ht]
    simp [hj]

theorem own_lt {k : IntKind} {w : World} {base e n c g o : Nat} {f : Nat → Nat} (h : Own k w base e (some ⟨g, o, none⟩) n c f) : g < w.heap.size := by
  rcases h.cases with ⟨h1, _⟩ | ⟨g', h1, _, h2, _⟩
  · cases h1
  · injection h1 with h1
    injection h1 with h1
    omega
/-- a new block of written-out numbers -/
theorem sq_new {k : IntKind} {w : World} {cs : Array Value} {e lo hi n : Nat} (f : Nat → Nat) (hl : lo ≤ w.heap.size) (hh : w.heap.size < hi) (hz : ∀ j, n ≤ j → f j = 0) (hc : ∀ j, j < n → cs[j]? = some (.int k ((f j : Nat) : Int))) :
    Sq k (w.alloc (.cells cs e)) lo hi (some ⟨w.heap.size, 0, none⟩) n f :=
  ⟨hz, fun _ => ⟨w.heap.size, 0, rfl, hl, hh, fun j hj => by
    rw [Nat.zero_add, World.cell?_alloc_new]
    exact hc j hj⟩⟩
/-- one number -/
def oneF (x : Nat) : Nat → Nat := fun j => if j = 0 then x else 0
theorem sq_one {k : IntKind} {w : World} {e lo hi x : Nat} {v : Value} (hv : v = .int k ((x : Nat) : Int)) (hl : lo ≤ w.heap.size) (hh : w.heap.size < hi) : Sq k (w.alloc (.cells #[v] e)) lo hi (some ⟨w.heap.size, 0, none⟩) 1 (oneF x) :=
  sq_new (oneF x) hl hh (fun j hj => if_neg (by omega)) fun j hj => by
    obtain rfl : j = 0 := by omega
    subst hv
    rfl

section laws
variable {P : Program} {w : World} {ops : Array Oper} {rest : List Oper} {o : Oper} {a : Act} {Q : Exit → Act → World → Prop}

/-- make([]T, n) -/
theorem wpl_make (hg : o.guard = none) (l c : Operand) (t : TypeId) (hop : o.op = Op.makeSlice t l c) {e : TypeId} {k : IntKind} {bytes : Nat} (he : ElemOf P t e k bytes)
    (kl kc : IntKind) (L C : Int) (n : Nat) (hl : a.eval l = .int kl L) (hc : a.eval c = .int kc C) (hL : L = (n : Int)) (hC : C = (n : Int)) (hb : bytes * n ≤ 281474976710656) (hn : n ≤ maxLen)
    (h : ∀ w', w'.rowIs w.heap.size e n (ku k fun _ => 0) → Below w.heap.size w w' → w.heap.size < w'.heap.size → wpList P ops Q rest (a.put o.dst (.slice (some ⟨w.heap.size, 0, none⟩) n n)) w') :
    wpList P ops Q (o :: rest) a w := by
  refine wpList_plain hg fun K hK => ?_
  have hrun := run_make_row' (P := P) t e (.int k 0) bytes he.ht he.hi rfl kl kc n hb (by unfold maxLen at hn; omega) w
  subst hL hC
  unfold Oper.wp
  simp [execOp, hop, hl, hc, hrun, Result.andThen]
  exact hK _ _ (h _ ((World.rowIs_made w (.int k 0) n e).congr fun i _ => rfl) ((Below.refl _ _).alloc (Nat.le_refl _) _) (by simp))

/-- make([]T, 0, n) -/
theorem wpl_make0 (hg : o.guard = none) (l c : Operand) (t : TypeId) (hop : o.op = Op.makeSlice t l c) {e : TypeId} {k : IntKind} {bytes : Nat} (he : ElemOf P t e k bytes)
    (kl kc : IntKind) (C : Int) (n : Nat) (hl : a.eval l = .int kl 0) (hc : a.eval c = .int kc C) (hC : C = (n : Int)) (hb : bytes * n ≤ 281474976710656) (hn : n ≤ maxLen)
    (h : ∀ w', Own k w' w.heap.size e (some ⟨w.heap.size, 0, none⟩) 0 n (fun _ => 0) → Below w.heap.size w w' → wpList P ops Q rest (a.put o.dst (.slice (some ⟨w.heap.size, 0, none⟩) 0 n)) w') :
    wpList P ops Q (o :: rest) a w := by
  obtain ⟨i, hi, hz⟩ := Option.map_eq_some_iff.1 he.hi
  simp only [Prod.mk.injEq] at hz
  refine wpList_make_own w hg l c t hop w.heap.size e i _ 1 he.ht hi hz.1 hz.2.1 kl kc C n hl hc hC (by rw [hz.2.2]; exact hb) hn (Nat.le_refl _) fun w' h1 h2 => ?_
  exact h w' ⟨fun _ _ => rfl, h1⟩ ((Below.refl _ _).grown h2 (Nat.le_refl _) (fun _ h => by cases h))

theorem app_list (k : IntKind) (f g F : Nat → Nat) (n m : Nat) (h1 : ∀ j, j < n → F j = f j) (h2 : ∀ j, j < m → F (n + j) = g j) :
    (List.range n).map (ku k f) ++ (List.range m).map (ku k g) = (List.range (n + m)).map (ku k F) := by
  rw [List.range_add, List.map_append, List.map_map]
  congr 1
  · exact List.map_congr_left fun j hj => by simp [ku, h1 j (List.mem_range.1 hj)]
  · exact List.map_congr_left fun j hj => by simp [ku, h2 j (List.mem_range.1 hj)]

/-- what an append leaves, said of the slice itself -/
theorem own_value {w' : World} {base e n : Nat} {v : Value} {xs : List Value} (h : w'.ownsRow base e 1 v n xs) : ∃ A c, v = .slice A n c := by
  rcases h.2 with ⟨rfl, rfl⟩ | ⟨g, cap, cur, rfl, _⟩
  · exact ⟨none, 0, rfl⟩
  · exact ⟨_, _, rfl⟩

/-- append(out, src...) onto a slice of the call's own -/
theorem wpl_append (hgd : o.guard = none) (s x : Operand) (t : TypeId) (ho : o.op = .call { callee := .builtin .append, args := #[s, x], argTypes := #[t, t] })
    {e : TypeId} {k : IntKind} {bytes : Nat} (he : ElemOf P t e k bytes) {base : Nat} {A : Option Addr} {n c : Nat} {f : Nat → Nat} (hs : a.eval s = .slice A n c) (hown : Own k w base e A n c f)
    {lo hi : Nat} {A2 : Option Addr} {m c2 : Nat} {g : Nat → Nat} (hx : a.eval x = .slice A2 m c2) (hr : Sq k w lo hi A2 m g) (F : Nat → Nat) (h1 : ∀ j, j < n → F j = f j) (h2 : ∀ j, F (n + j) = g j)
    (h63 : n + m ≤ maxLen) (hbytes : (n + m) * bytes ≤ 140737488355328) (hbase : base ≤ w.heap.size)
    (h : ∀ A' c' w', Own k w' base e A' (n + m) c' F → w.grownBy w' (Value.slice A n c).ownBlock → Below base w w' → (A' = A ∨ A' = some ⟨w.heap.size, 0, none⟩) → wpList P ops Q rest (a.put o.dst (.slice A' (n + m) c')) w') :
    wpList P ops Q (o :: rest) a w := by
  obtain ⟨i, hi, hz⟩ := Option.map_eq_some_iff.1 he.hi
  simp only [Prod.mk.injEq] at hz
  obtain ⟨hz1, hz2, hz3⟩ := hz
  have hrow : ∀ k, (Value.slice A n c).ownBlock = some k → base ≤ k := fun k hk => (hown.2.lt k hk).1
  have hzero : ∀ j, n + m ≤ j → F j = 0 := fun j hj => by rw [show j = n + (j - n) from by omega, h2, hr.1 _ (by omega)]
  by_cases hm : m = 0
  · subst hm
    have hrun : (Builtin.append_ #[t, t] o.type #[.slice A n c, .slice A2 0 c2]).run P w = .ok (.slice A n c) w ∨ ∃ ad, A2 = some ad := by
      rcases A2 with _ | ad
      · refine .inl ?_
        rcases hown.2.2 with ⟨hv, rfl⟩ | ⟨g, cap, cur, hv, _, _, hnc, _⟩
        · rw [hv]; simp [Builtin.append_, run_underlying he.ht, sizeOf, typeInfo, hi, Builtin.lenOf, Builtin.firstCells]
        · rw [hv]; simp [Builtin.append_, run_underlying he.ht, sizeOf, typeInfo, hi, Builtin.lenOf, Builtin.firstCells, hnc, storeCells]
      · exact .inr ⟨ad, rfl⟩
    have hF : Own k w base e A n c F := ⟨fun j hj => hzero j (by omega), by
      rw [show (List.range n).map (ku k F) = (List.range n).map (ku k f) from List.map_congr_left fun j hj => by simp [ku, h1 j (List.mem_range.1 hj)]]
      exact hown.2⟩
    rcases hrun with hrun | ⟨ad, rfl⟩
    · refine wpList_plain hgd fun K hK => ?_
      unfold Oper.wp
      simp [execOp, ho, resolve, invoke, builtin, hs, hx, hrun, Result.andThen]
      exact hK _ _ (h A c w hF (World.grownBy.refl w _) (Below.refl _ _) (.inl rfl))
    · obtain ⟨v', w', hrun, r1, r2, _, r5⟩ := run_append_own_at (P := P) w base t o.type e i (.int k 0) 1 bytes he.ht hi hz1 hz2 hz3 rfl (by decide) (.slice A n c) n _ hown.2 ad 0 c2 [] rfl (fun j u hu => by simp at hu) (fun u hu => by simp at hu) h63 hbytes hbase
      obtain ⟨A', c', rfl⟩ := own_value r1
      refine wpList_plain hgd fun K hK => ?_
      unfold Oper.wp
      simp [execOp, ho, resolve, invoke, builtin, hs, hx, hrun, Result.andThen]
      have hF' : Own k w' base e A' n c' F := ⟨fun j hj => hzero j (by omega), by
        rw [show (List.range n).map (ku k F) = (List.range n).map (ku k f) from List.map_congr_left fun j hj => by simp [ku, h1 j (List.mem_range.1 hj)]]
        simpa using r1⟩
      refine hK _ _ (h A' c' w' hF' r2 ((Below.refl _ _).grown r2 hbase hrow) ?_)
      rcases hF'.cases with ⟨rfl, rfl, _⟩ | ⟨g', rfl, _⟩
      · rcases hown.cases with ⟨rfl, _⟩ | ⟨g, rfl, _⟩
        · exact .inl rfl
        · rcases r5 with r | r <;> simp [Value.ownBlock] at r
      · rcases hown.cases with ⟨rfl, _⟩ | ⟨g, rfl, _⟩ <;> rcases r5 with r | r <;> simp [Value.ownBlock] at r <;> simp [r]
  · obtain ⟨b, off, rfl, _, _, hcell⟩ := hr.2 (by omega)
    obtain ⟨v', w', hrun, r1, r2, _, r5⟩ := run_append_own_at (P := P) w base t o.type e i (.int k 0) 1 bytes he.ht hi hz1 hz2 hz3 rfl (by decide) (.slice A n c) n _ hown.2 ⟨b, off, none⟩ m c2 ((List.range m).map (ku k g)) (by simp)
      (fun j u hu => by
        have hj : j < m := by
          rcases Nat.lt_or_ge j m with h | h
          · exact h
          · rw [List.getElem?_eq_none (by simpa using h)] at hu; cases hu
        rw [List.getElem?_map, List.getElem?_range hj] at hu
        simp only [Option.map_some, Option.some.injEq] at hu
        subst hu
        have e1 : (⟨b, off, none⟩ : Addr).add j = ⟨b, off + j, none⟩ := by
          unfold Addr.add
          split
          · simp
          · rfl
        rw [e1]
        exact hcell j hj) (ku_oneCell k g m) h63 hbytes hbase
    obtain ⟨A', c', rfl⟩ := own_value r1
    rw [app_list k f g F n m h1 (fun j _ => h2 j)] at r1
    refine wpList_plain hgd fun K hK => ?_
    unfold Oper.wp
    simp [execOp, ho, resolve, invoke, builtin, hs, hx, hrun, Result.andThen]
    have hF' : Own k w' base e A' (n + m) c' F := ⟨hzero, r1⟩
    refine hK _ _ (h A' c' w' hF' r2 ((Below.refl _ _).grown r2 hbase hrow) ?_)
    rcases hF'.cases with ⟨rfl, h0, _⟩ | ⟨g', rfl, _⟩
    · omega
    · rcases hown.cases with ⟨rfl, _⟩ | ⟨g, rfl, _⟩ <;> rcases r5 with r | r <;> simp [Value.ownBlock] at r <;> simp [r]

/-- append(out, src...) where there is room -/
theorem wpl_append_fits (hgd : o.guard = none) (s x : Operand) (t : TypeId) (ho : o.op = .call { callee := .builtin .append, args := #[s, x], argTypes := #[t, t] })
    {e : TypeId} {k : IntKind} {bytes : Nat} (he : ElemOf P t e k bytes) {base g0 n c : Nat} {f : Nat → Nat} (hs : a.eval s = .slice (some ⟨g0, 0, none⟩) n c) (hown : Own k w base e (some ⟨g0, 0, none⟩) n c f)
    {lo hi : Nat} {A2 : Option Addr} {m c2 : Nat} {g : Nat → Nat} (hx : a.eval x = .slice A2 m c2) (hr : Sq k w lo hi A2 m g) (F : Nat → Nat) (h1 : ∀ j, j < n → F j = f j) (h2 : ∀ j, F (n + j) = g j)
    (hfit : n + m ≤ c)
    (h : ∀ w', Own k w' base e (some ⟨g0, 0, none⟩) (n + m) c F → w.grownBy w' (some g0) → wpList P ops Q rest (a.put o.dst (.slice (some ⟨g0, 0, none⟩) (n + m) c)) w') :
    wpList P ops Q (o :: rest) a w := by
  obtain ⟨i, hi, hz⟩ := Option.map_eq_some_iff.1 he.hi
  simp only [Prod.mk.injEq] at hz
  obtain ⟨hz1, hz2, hz3⟩ := hz
  have hzero : ∀ j, n + m ≤ j → F j = 0 := fun j hj => by rw [show j = n + (j - n) from by omega, h2, hr.1 _ (by omega)]
  have hcF : (List.range n).map (ku k F) = (List.range n).map (ku k f) := List.map_congr_left fun j hj => by simp [ku, h1 j (List.mem_range.1 hj)]
  by_cases hA : A2 = none
  · subst hA
    have hm : m = 0 := by
      rcases Nat.eq_zero_or_pos m with h0 | h0
      · exact h0
      · obtain ⟨b, off, e, _⟩ := hr.2 h0
        cases e
    subst hm
    have hrun : (Builtin.append_ #[t, t] o.type #[.slice (some ⟨g0, 0, none⟩) n c, .slice none 0 c2]).run P w = .ok (.slice (some ⟨g0, 0, none⟩) n c) w := by
      have hnc := hown.le
      simp [Builtin.append_, run_underlying he.ht, sizeOf, typeInfo, hi, Builtin.lenOf, Builtin.firstCells, hnc, storeCells]
    refine wpList_plain hgd fun K hK => ?_
    unfold Oper.wp
    simp [execOp, ho, resolve, invoke, builtin, hs, hx, hrun, Result.andThen]
    exact hK _ _ (h w ⟨fun j hj => hzero j (by omega), by rw [Nat.add_zero, hcF]; exact hown.2⟩ (World.grownBy.refl w _))
  · obtain ⟨ad, rfl⟩ : ∃ ad, A2 = some ad := by
      cases A2 with
      | none => exact absurd rfl hA
      | some ad => exact ⟨ad, rfl⟩
    refine wpList_append_fits w hgd s x t ho base e i 1 he.ht hi hz2 g0 n c _ hs hown.2 ad m c2 ((List.range m).map (ku k g)) hx (by simp) (fun j u hu => ?_) (ku_oneCell k g m) hfit fun w' r1 r2 => ?_
    · have hj : j < m := by
        rcases Nat.lt_or_ge j m with h | h
        · exact h
        · rw [List.getElem?_eq_none (by simpa using h)] at hu; cases hu
      obtain ⟨b, off, hA2, _, _, hcell⟩ := hr.2 (by omega)
      injection hA2 with hA2
      subst hA2
      rw [List.getElem?_map, List.getElem?_range hj] at hu
      simp only [Option.map_some, Option.some.injEq] at hu
      subst hu
      have e1 : (⟨b, off, none⟩ : Addr).add j = ⟨b, off + j, none⟩ := by
        unfold Addr.add
        split
        · simp
        · rfl
      rw [e1]
      exact hcell j hj
    · rw [app_list k f g F n m h1 (fun j _ => h2 j)] at r1
      exact h w' ⟨hzero, r1⟩ r2

/-- copy(out, src), out a whole row of the call's own -/
theorem wpl_copy (hgd : o.guard = none) (d s : Operand) (t : TypeId) (ho : o.op = .call { callee := .builtin .copy, args := #[d, s], argTypes := #[t, t] })
    {e : TypeId} {k : IntKind} {bytes : Nat} (he : ElemOf P t e k bytes) {b N : Nat} {F : Nat → Nat} (hd : a.eval d = .slice (some ⟨b, 0, none⟩) N N) (hrow : w.rowIs b e N (ku k F))
    {lo hi : Nat} {A2 : Option Addr} {m c2 : Nat} {g : Nat → Nat} (hx : a.eval s = .slice A2 m c2) (hr : Sq k w lo hi A2 m g) (hm : m ≤ N)
    (h : ∀ w', w'.rowIs b e N (ku k fun j => if j < m then g j else F j) → Below b w w' → wpList P ops Q rest (a.put o.dst (goInt m)) w') :
    wpList P ops Q (o :: rest) a w := by
  have hrow0 := hrow
  obtain ⟨cs, hh, hN, hcs⟩ := hrow
  have hcur : cs.toList.length = N := by simpa using hN
  have hlen : ((List.range m).map (ku k g)).length = m := by simp
  refine wpList_copy_splice hgd d s t t ho e he.ht he.size (some ⟨b, 0, none⟩) A2 N N m c2 hd hx b 0 cs.toList e (by simpa using hh) ((List.range m).map (ku k g)) (by simp [Nat.min_eq_left hm]) (fun hpos => ?_) (by simp [hN, hm])
    (ku_oneCell k g m) b w (Below.refl _ _) (Nat.le_refl _) fun w' hw' hb' => ?_
  · have hm0 : 0 < m := by simpa using hpos
    obtain ⟨b2, off, rfl, _, _, hcell⟩ := hr.2 hm0
    refine ⟨rfl, _, rfl, fun j u hu => ?_⟩
    have hj : j < m := by
      rcases Nat.lt_or_ge j m with h | h
      · exact h
      · rw [List.getElem?_eq_none (by simpa using h)] at hu; cases hu
    rw [List.getElem?_map, List.getElem?_range hj] at hu
    simp only [Option.map_some, Option.some.injEq] at hu
    subst hu
    have e1 : (⟨b2, off, none⟩ : Addr).add j = ⟨b2, off + j, none⟩ := by
      unfold Addr.add
      split
      · simp
      · rfl
    rw [e1]
    exact hcell j hj
  · rw [hlen]
    refine h w' ⟨_, hw'.out, ?_, fun j hj => ?_⟩ hb'
    · rw [List.size_toArray, length_splice _ _ _ (by omega), hcur]
    · unfold splice
      simp only [List.take_zero, List.nil_append, Nat.zero_add]
      rw [List.getElem?_toArray]
      by_cases hjm : j < m
      · rw [List.getElem?_append_left (by omega), List.getElem?_map, List.getElem?_range hjm]
        simp [ku, hjm]
      · rw [List.getElem?_append_right (by omega), hlen, List.getElem?_drop, show m + (j - m) = j from by omega, Array.getElem?_toList, hcs j hj]
        simp [ku, hjm]
end laws
end Go.Proofs.Ytkklacgoeopekaa

namespace Go.Proofs.Ytkklacgoeopekaa
open Go.RowKit

/-- a call that returns one value and leaves what was there -/
def RetV (w : World) (v : Value) (e : Ending) (w' : World) : Prop := e = .returned v ∧ Below w.heap.size w w'

/-- a call that returns one value and leaves the world as it is -/
def RetP (w : World) (v : Value) (e : Ending) (w' : World) : Prop := e = .returned v ∧ w = w'
theorem RetP.v {w : World} {v : Value} {e : Ending} {w' : World} (h : RetP w v e w') : RetV w v e w' := ⟨h.1, by rw [← h.2]; exact Below.refl _ _⟩
end Go.Proofs.Ytkklacgoeopekaa
