/- The contract of primes.Chain. -/
import Derived.Test.YthepdpfiahcfmaaChainP
import Derived.Test.YthepdpfiahcfmaaDim
import Derived.Test.YthepdpfiahcfmaaFind
import Derived.RangeFuncBox
import Derived.OwnWalk
namespace Go.Proofs.Ythepdpfiahcfmaa
open Go.RowKit Go.Shelf Go.Sort
set_option linter.unusedVariables false
attribute [local go_sem] Oper.semAt_some

def ChBad (n : Int) (t : Nat) (c : Int) : Prop := dimB n = false ∨ t < 3 ∨ t % 2 = 0 ∨ 2147483647 < t ∨ c < 1 ∨ 25 < c
def chS (n : Int) (t : Nat) : Nat := 2 * n.toNat * t
def chK (n : Int) (t : Nat) : Nat := 2147483646 / chS n t
def ChR (n : Int) (t : Nat) (c : Int) (l : List Nat) (E : Nat) : Prop := (ChBad n t c ∧ l = [] ∧ E = 2) ∨ (¬ ChBad n t c ∧ ChainR (dnF (chS n t) (chK n t)) (chK n t) c.toNat l E)
theorem ChR.uniq {n : Int} {t : Nat} {c : Int} {l l' : List Nat} {E E' : Nat} (h : ChR n t c l E) (h' : ChR n t c l' E') : l' = l ∧ E' = E := by
  rcases h with ⟨h1, rfl, rfl⟩ | ⟨h1, h2⟩ <;> rcases h' with ⟨g1, rfl, rfl⟩ | ⟨g1, g2⟩
  · exact ⟨rfl, rfl⟩
  · exact absurd h1 g1
  · exact absurd g1 h1
  · exact h2.uniq g2
/-- a list of words that a call returned -/
def Wl (w : World) (lo hi : Nat) (A : Option Addr) (l : List Nat) : Prop := Sq .u32 w lo hi A l.length (fun j => l.getD j 0)
def RetCh (w : World) (R : List Nat → Nat → Prop) (e : Ending) (w' : World) : Prop := ∃ A c l E, e = .returned (.tuple #[.slice A l.length c, .int .i64 ((E : Nat) : Int)]) ∧ l.length ≤ c ∧ Wl w' w.heap.size w'.heap.size A l ∧ R l E ∧ Below w.heap.size w w'
theorem Wl.nil (w : World) (lo hi : Nat) (A : Option Addr) : Wl w lo hi A [] := (Sq.nil .u32 w lo hi A).congr fun j => by simp

def cw (l : List Nat) : List Value := l.map fun x => .int .u32 ((x : Nat) : Int)
theorem cw_snoc (l : List Nat) (x : Nat) : cw l ++ [.int .u32 (x : Int)] = cw (l ++ [x]) := by unfold cw; rw [List.map_append]; rfl
theorem cw_len (l : List Nat) : (cw l).length = l.length := by unfold cw; rw [List.length_map]
theorem cell_one_new (W : World) (u : Value) (t : TypeId) : ∀ (j : Nat) (x : Value), [u][j]? = some x → (W.alloc (.cells #[u] t)).cell? ((⟨W.heap.size, 0, none⟩ : Addr).add j) = some x := by
  intro j x hx
  match j, hx with
  | 0, hx =>
    have e : (⟨W.heap.size, 0, none⟩ : Addr).add 0 = ⟨W.heap.size, 0, none⟩ := by unfold Addr.add; simp
    rw [e, World.cell?_alloc_new]
    exact hx
theorem wl_of {w : World} {base n : Nat} {e : TypeId} {l : List Nat} {v : Value} (hn : n = l.length) (h : w.ownsRow base e 1 v n (cw l)) : ∃ A c, v = .slice A n c ∧ n ≤ c ∧ Wl w base w.heap.size A l := by
  subst hn
  rcases h.2 with ⟨rfl, h0⟩ | ⟨g, cap, cur, rfl, hb, hh, hnc, hm, hs, ht⟩
  · have : l = [] := List.length_eq_zero_iff.1 h0
    subst this
    exact ⟨none, 0, rfl, Nat.le_refl _, Wl.nil _ _ _ _⟩
  · refine ⟨_, _, rfl, hnc, fun j hj => by simp [List.getElem?_eq_none hj], fun _ => ⟨g, 0, rfl, hb, (Array.getElem?_eq_some_iff.1 hh).1, fun j hj => ?_⟩⟩
    rw [Nat.zero_add]
    have h1 : (cw l)[j]? = some (.int .u32 ((l.getD j 0 : Nat) : Int)) := by
      unfold cw
      rw [List.getElem?_map, List.getElem?_eq_getElem hj, List.getD_eq_getElem?_getD, List.getElem?_eq_getElem hj]
      rfl
    rw [← h1, ← ht, Nat.mul_one, List.getElem?_take_of_lt hj, Array.getElem?_toList]
    simp [World.cell?, hh]

/-- the boxes of Chain: how many are wanted, and the two results -/
structure C3 (w : World) (cnt : Int) (r : Value) (E : Int) (W : World) : Prop where
  b0 : Boxed W w.heap.size 3 (.int .i64 cnt)
  b1 : Boxed W (w.heap.size + 1) 28 r
  b2 : Boxed W (w.heap.size + 2) 23 (.int .i64 E)
  bel : Below w.heap.size w W
theorem C3.new (w : World) (cnt : Int) (r : Value) (E : Int) : C3 w cnt r E (((w.alloc (.cells #[.int .i64 cnt] 3)).alloc (.cells #[r] 28)).alloc (.cells #[.int .i64 E] 23)) := by
  have a0 := Boxed.new w 3 (.int .i64 cnt)
  have z0 : (w.alloc (.cells #[.int .i64 cnt] 3)).heap.size = w.heap.size + 1 := World.size_alloc _ _
  have hb : Below w.heap.size w (w.alloc (.cells #[.int .i64 cnt] 3)) := (Below.refl _ w).alloc (Nat.le_refl _) _
  generalize w.alloc (.cells #[.int .i64 cnt] 3) = w1 at *
  have a1 := Boxed.new w1 28 r
  have z1 : (w1.alloc (.cells #[r] 28)).heap.size = w.heap.size + 2 := by rw [World.size_alloc, z0]
  have hb2 : Below w.heap.size w (w1.alloc (.cells #[r] 28)) := hb.alloc (by omega) _
  have a0 := a0.alloc (.cells #[r] 28)
  rw [z0] at a1
  generalize w1.alloc (.cells #[r] 28) = w2 at *
  have a2 := Boxed.new w2 23 (.int .i64 E)
  rw [z1] at a2
  exact ⟨a0.alloc _, a1.alloc _, a2, hb2.alloc (by omega) _⟩
theorem C3.kept {w A B : World} {cnt E : Int} {r : Value} {row : Option Nat} (h : C3 w cnt r E A) (hg : A.grownBy B row) (hr : ∀ b, row = some b → w.heap.size + 3 ≤ b) : C3 w cnt r E B where
  b0 := h.b0.kept hg fun e => by have := hr _ e.symm; omega
  b1 := h.b1.kept hg fun e => by have := hr _ e.symm; omega
  b2 := h.b2.kept hg fun e => by have := hr _ e.symm; omega
  bel := h.bel.grown hg h.bel.size fun k e => by have := hr k e; omega
theorem C3.put {w A : World} {cnt E : Int} {r : Value} (r' : Value) (E' : Int) (h : C3 w cnt r E A) : C3 w cnt r' E' ((A.setCell ⟨w.heap.size + 1, 0, none⟩ r').setCell ⟨w.heap.size + 2, 0, none⟩ (.int .i64 E')) where
  b0 := (h.b0.kept (grownBy_setCell' _ _ _) (by simp)).kept (grownBy_setCell' _ _ _) (by simp)
  b1 := (h.b1.set _).kept (grownBy_setCell' _ _ _) (by simp)
  b2 := (h.b2.kept (grownBy_setCell' _ _ _) (by simp)).set _
  bel := (h.bel.setCell (p := ⟨w.heap.size + 1, 0, none⟩) (by show w.heap.size ≤ w.heap.size + 1; omega) _).setCell (p := ⟨w.heap.size + 2, 0, none⟩) (by show w.heap.size ≤ w.heap.size + 2; omega) _
/-- .. and the list so far -/
structure CS (w : World) (cnt : Int) (l : List Nat) (v r : Value) (E : Int) (W : World) : Prop where
  c : C3 w cnt r E W
  b3 : Boxed W (w.heap.size + 3) 28 v
  row : W.ownsRow w.heap.size 22 1 v l.length (cw l)
theorem ne_row1 {A : World} {b : Nat} {cs : Array Value} {e : TypeId} {z : Nat × Nat} {row : Option Nat} (h : A.heap[b]? = some (.cells cs e z)) (hr : ∀ r, row = some r → ∃ o : Obj, A.heap[r]? = some o ∧ o.isCells = false) : some b ≠ row := fun e' => by
  obtain ⟨o, ho, hc⟩ := hr b e'.symm
  rw [h] at ho
  cases ho
  cases hc
theorem C3.other {w A B : World} {cnt E : Int} {r : Value} {row : Option Nat} (h : C3 w cnt r E A) (hg : A.grownBy B row) (hr : ∀ b, row = some b → w.heap.size ≤ b ∧ ∃ o : Obj, A.heap[b]? = some o ∧ o.isCells = false) : C3 w cnt r E B where
  b0 := h.b0.kept hg (ne_row1 h.b0 fun r e => (hr r e).2)
  b1 := h.b1.kept hg (ne_row1 h.b1 fun r e => (hr r e).2)
  b2 := h.b2.kept hg (ne_row1 h.b2 fun r e => (hr r e).2)
  bel := h.bel.grown hg h.bel.size fun k e => (hr k e).1
theorem own_other {A B : World} {base size n : Nat} {e : TypeId} {v : Value} {xs : List Value} {row : Option Nat} (h : A.ownsRow base e size v n xs) (hg : A.grownBy B row) (hr : ∀ r, row = some r → ∃ o : Obj, A.heap[r]? = some o ∧ o.isCells = false) : B.ownsRow base e size v n xs := by
  refine h.kept hg ?_
  rcases h.2 with ⟨rfl, _⟩ | ⟨g, cap, cur, rfl, _, hgb, _⟩
  · exact .inl rfl
  · exact .inr fun e' => ne_row1 hgb hr (by simpa [Value.ownBlock] using e')
theorem CS.other {w A B : World} {cnt E : Int} {l : List Nat} {v r : Value} {row : Option Nat} (h : CS w cnt l v r E A) (hg : A.grownBy B row) (hr : ∀ b, row = some b → w.heap.size ≤ b ∧ ∃ o : Obj, A.heap[b]? = some o ∧ o.isCells = false) : CS w cnt l v r E B :=
  ⟨h.c.other hg hr, h.b3.kept hg (ne_row1 h.b3 fun r e => (hr r e).2), own_other h.row hg fun r e => (hr r e).2⟩
theorem below_grown {A B : World} (h : Below A.heap.size A B) : A.grownBy B none := ⟨h.os, h.tape, h.output, h.size, fun k hk _ => h.block k hk⟩
end Go.Proofs.Ythepdpfiahcfmaa
