/- Words on memory and on lists of residues, used by all walks of this claim. -/
import Derived.WalkKit
import Derived.WalkSpells
import Derived.WalkLawsBesides
import Derived.Lib.Hide
import Derived.Deep.OwnRows
namespace Go.Proofs.Ytcnkddoipmaddaa
open Go.RowKit

/-- the value of a row's cell j: the number f j, of kind k -/
def ku (k : IntKind) (f : Nat → Nat) : Nat → Value := fun j => .int k ((f j : Nat) : Int)

/-- the slice (A, n) reads as f (0 from n on); its cells lie in a block from lo on, below hi -/
def Sq (k : IntKind) (w : World) (lo hi : Nat) (A : Option Addr) (n : Nat) (f : Nat → Nat) : Prop :=
  (∀ j, n ≤ j → f j = 0) ∧ (0 < n → ∃ b off, A = some ⟨b, off, none⟩ ∧ lo ≤ b ∧ b < hi ∧ ∀ j, j < n → w.cell? ⟨b, off + j, none⟩ = some (.int k ((f j : Nat) : Int)))

theorem Sq.below {k : IntKind} {w w' : World} {lo hi B : Nat} {A : Option Addr} {n : Nat} {f : Nat → Nat} (h : Sq k w lo hi A n f) (hb : Below B w w') (hB : hi ≤ B) : Sq k w' lo hi A n f :=
  ⟨h.1, fun hn => by
    obtain ⟨b, off, e, h1, h2, h3⟩ := h.2 hn
    exact ⟨b, off, e, h1, h2, fun j hj => (hb.cell (p := ⟨b, off + j, none⟩) (show b < B by omega)).trans (h3 j hj)⟩⟩

theorem Sq.wide {k : IntKind} {w : World} {lo hi lo' hi' : Nat} {A : Option Addr} {n : Nat} {f : Nat → Nat} (h : Sq k w lo hi A n f) (hl : lo' ≤ lo) (hh : hi ≤ hi') : Sq k w lo' hi' A n f :=
  ⟨h.1, fun hn => by
    obtain ⟨b, off, e, h1, h2, h3⟩ := h.2 hn
    exact ⟨b, off, e, by omega, by omega, h3⟩⟩

theorem Sq.nil (k : IntKind) (w : World) (lo hi : Nat) (A : Option Addr) : Sq k w lo hi A 0 (fun _ => 0) := ⟨fun _ _ => rfl, fun h => absurd h (by omega)⟩

theorem Sq.congr {k : IntKind} {w : World} {lo hi : Nat} {A : Option Addr} {n : Nat} {f g : Nat → Nat} (h : Sq k w lo hi A n f) (e : ∀ j, f j = g j) : Sq k w lo hi A n g := by
  have : f = g := funext e
  subst this
  exact h

theorem Sq.of_row {k : IntKind} {w : World} {b t c n lo hi : Nat} {f g : Nat → Nat} (h : w.rowIs b t c (ku k f)) (hn : n ≤ c) (hl : lo ≤ b) (hh : b < hi) (hg : ∀ j, n ≤ j → g j = 0) (he : ∀ j, j < n → f j = g j) :
    Sq k w lo hi (some ⟨b, 0, none⟩) n g :=
  ⟨hg, fun _ => ⟨b, 0, rfl, hl, hh, fun j hj => by
    rw [Nat.zero_add, h.cell (show j < c by omega)]
    simp only [ku, he j hj]⟩⟩

theorem rowIs_below {B : Nat} {w w' : World} {b t n : Nat} {F : Nat → Value} (h : w.rowIs b t n F) (hb : Below B w w') (hB : b < B) : w'.rowIs b t n F := h.of_block (hb.block b hB)

theorem rowIs_set_ku {k : IntKind} {w : World} {b t n : Nat} {f : Nat → Nat} (h : w.rowIs b t n (ku k f)) (i x : Nat) : (w.setCell ⟨b, i, none⟩ (.int k (x : Int))).rowIs b t n (ku k (fun j => if j = i then x else f j)) :=
  (h.set i _).congr fun j _ => by
    simp only [ku]
    split <;> rfl

/-- the length without the zeros at the end -/
def tl (f : Nat → Nat) : Nat → Nat
  | 0 => 0
  | n + 1 => if f n = 0 then tl f n else n + 1

theorem tl_le (f : Nat → Nat) : ∀ n, tl f n ≤ n
  | 0 => Nat.le_refl _
  | n + 1 => by
    unfold tl
    split
    · exact Nat.le_trans (tl_le f n) (Nat.le_succ n)
    · exact Nat.le_refl _
theorem tl_zero (f : Nat → Nat) : ∀ n j, tl f n ≤ j → j < n → f j = 0
  | 0, j, _, h => absurd h (Nat.not_lt_zero j)
  | n + 1, j, h1, h2 => by
    unfold tl at h1
    split at h1
    · rename_i h0
      rcases Nat.lt_or_ge j n with h | h
      · exact tl_zero f n j h1 h
      · rw [show j = n from by omega]; exact h0
    · omega
theorem tl_last (f : Nat → Nat) : ∀ n, 0 < tl f n → f (tl f n - 1) ≠ 0
  | 0, h => absurd h (Nat.lt_irrefl 0)
  | n + 1, h => by
    unfold tl at h ⊢
    split
    · rename_i h0
      rw [if_pos h0] at h
      exact tl_last f n h
    · rename_i h0
      exact h0
/-- whatever has these three properties is it -/
theorem tl_unique {f : Nat → Nat} {n k : Nat} (h1 : k ≤ n) (h2 : ∀ j, k ≤ j → j < n → f j = 0) (h3 : 0 < k → f (k - 1) ≠ 0) : tl f n = k := by
  rcases Nat.lt_trichotomy (tl f n) k with h | h | h
  · exact absurd (tl_zero f n (k - 1) (by omega) (by omega)) (h3 (by omega))
  · exact h
  · have := tl_le f n
    exact absurd (h2 (tl f n - 1) (by omega) (by omega)) (tl_last f n (by omega))
theorem tl_ext {f : Nat → Nat} {n m : Nat} (hn : ∀ j, n ≤ j → f j = 0) (hm : ∀ j, m ≤ j → f j = 0) : tl f n = tl f m := by
  refine tl_unique (k := tl f m) ?_ ?_ (tl_last f m)
  · rcases Nat.lt_or_ge n (tl f m) with h | h
    · have := tl_le f m
      exact absurd (hn (tl f m - 1) (by omega)) (tl_last f m (by omega))
    · exact h
  · intro j h1 _
    rcases Nat.lt_or_ge j m with h | h
    · exact tl_zero f m j h1 h
    · exact hm j h
theorem tl_congr {f g : Nat → Nat} (n : Nat) (h : ∀ j, j < n → f j = g j) : tl f n = tl g n := by
  refine tl_unique (tl_le g n) (fun j h1 h2 => (h j h2).trans (tl_zero g n j h1 h2)) fun h0 => ?_
  have := tl_le g n
  rw [h _ (by omega)]
  exact tl_last g n h0

/-- what a call that returns one new list leaves -/
def RetSl (w : World) (n : Nat) (F : Nat → Nat) (e : Ending) (w' : World) : Prop :=
  ∃ A c, e = .returned (.slice A n c) ∧ n ≤ c ∧ Sq .u32 w' w.heap.size w'.heap.size A n F ∧ Below w.heap.size w w'
end Go.Proofs.Ytcnkddoipmaddaa
