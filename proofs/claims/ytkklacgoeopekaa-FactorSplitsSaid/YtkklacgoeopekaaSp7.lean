/- The recursion of factor.Factors: what it keeps in memory, and its contract by the tree of its splittings. -/
import Derived.Test.YtkklacgoeopekaaCd7
import Derived.Test.YtkklacgoeopekaaCh7
namespace Go.Proofs.Ytkklacgoeopekaa
open Go.RowKit Go.Shelf
set_option linter.unusedVariables false
attribute [local go_sem] Oper.semAt_some

/-- the candidate k as a list -/
def candL (p n k : Nat) : List Nat := toL (tl (dgF p n k) n) (dgF p n k)
theorem CandG.list {p n k : Nat} {v : Value} {W : World} (h : CandG p n k v W) : ∃ A c, v = .slice A (candL p n k).length c ∧ (candL p n k).length ≤ n ∧ LS W 0 W.heap.size A (candL p n k) := by
  obtain ⟨A, m, c, rfl, h1, h2, h3, h4⟩ := h
  have e : tl (dgF p n k) n = m := (tl_unique h1 (fun j hj _ => h3.1 j hj) h4)
  refine ⟨A, c, by unfold candL; rw [toL_len, e], by unfold candL; rw [toL_len, e]; exact h1, ?_⟩
  unfold candL
  rw [e]
  exact LS.of h3
/-- the divisor that the candidate k leads to -/
def gL (p d : Nat) (f : List Nat) (k : Nat) : List Nat := gcL p f (sbL p (chrL p d (candL p (f.length - 1) k) f) [1])
/-- how a polynomial is split -/
inductive SplT (p d : Nat) : List Nat → List (List Nat) → Prop
  | leaf (f : List Nat) (h : f.length = d + 1) : SplT p d f [f]
  | node (f : List Nat) (k : Nat) (L1 L2 : List (List Nat)) (h1 : f.length ≠ d + 1) (h2 : 2 ≤ f.length ∧ f.length ≤ 1000) (hk : p ≤ k ∧ k < 9223372036854775807)
      (hb : ∀ j, p ≤ j → j ≤ k → chrB p d (candL p (f.length - 1) j) f = true ∧ (chrL p d (candL p (f.length - 1) j) f).length ≤ 1000)
      (hno : ∀ j, p ≤ j → j < k → ¬ (1 < (gL p d f j).length ∧ (gL p d f j).length < f.length)) (hyes : 1 < (gL p d f k).length ∧ (gL p d f k).length < f.length)
      (t1 : SplT p d (gL p d f k) L1) (t2 : SplT p d (dmQ p f (gL p d f k)) L2) : SplT p d f (L1 ++ L2)
theorem SplT.pos {p d : Nat} {f : List Nat} {L : List (List Nat)} (h : SplT p d f L) : f.length ≤ 1000 ∨ f.length = d + 1 := by
  cases h with
  | leaf _ h => exact .inr h
  | node _ k L1 L2 h1 h2 => exact .inl h2.2
def lnL (L : List (List Nat)) (j : Nat) : Nat := (L.getD j []).length
/-- the list of the factors, in memory: the variable's block ob, the row, the elements -/
structure OutS (w : World) (ob lo : Nat) (L : List (List Nat)) (O : Value) (G : Nat → Option Addr) (c : Nat → Nat) : Prop where
  box : w.heap[ob]? = some (.cells #[O] 27 (0, 0))
  row : w.ownsRow lo 34 1 O L.length ((List.range L.length).map fun j => .slice (G j) (lnL L j) (c j))
  el : ∀ j, j < L.length → LS w 0 w.heap.size (G j) (L.getD j [])
  apart : ∀ j, j < L.length → ∀ b off s, G j = some ⟨b, off, s⟩ → b ≠ ob ∧ O.ownBlock ≠ some b ∧ b < w.heap.size
/-- what changes -/
structure FrS (w w' : World) (ob : Nat) (O O' : Value) : Prop where
  os : w'.os = w.os
  tape : w'.tape = w.tape
  output : w'.output = w.output
  size : w.heap.size ≤ w'.heap.size
  block : ∀ k, k < w.heap.size → k ≠ ob → O.ownBlock ≠ some k → w'.heap[k]? = w.heap[k]?
  row : O'.ownBlock = O.ownBlock ∨ ∃ r, w.heap.size ≤ r ∧ O'.ownBlock = some r
theorem FrS.trans {w w1 w2 : World} {ob : Nat} {O O1 O2 : Value} (h : FrS w w1 ob O O1) (k : FrS w1 w2 ob O1 O2) : FrS w w2 ob O O2 where
  os := k.os.trans h.os
  tape := k.tape.trans h.tape
  output := k.output.trans h.output
  size := Nat.le_trans h.size k.size
  block := fun q hq hne hr => (k.block q (Nat.lt_of_lt_of_le hq h.size) hne (fun e => by
    rcases h.row with e1 | ⟨r, hr2, e1⟩
    · exact hr (e1.symm.trans e)
    · rw [e1] at e; injection e with e; omega)).trans (h.block q hq hne hr)
  row := by
    rcases k.row with e1 | ⟨r, hr, e1⟩
    · rcases h.row with e2 | ⟨r, hr, e2⟩
      · exact .inl (e1.trans e2)
      · exact .inr ⟨r, hr, e1.trans e2⟩
    · exact .inr ⟨r, Nat.le_trans h.size hr, e1⟩
theorem FrS.of_below {w w' : World} (ob : Nat) (O : Value) (h : Below w.heap.size w w') : FrS w w' ob O O where
  os := h.os
  tape := h.tape
  output := h.output
  size := h.size
  block := fun k hk _ _ => h.block k hk
  row := .inl rfl
/-- a list that is not of the row, and not of the variable, stays -/
def Free (w : World) (ob : Nat) (O : Value) (A : Option Addr) : Prop := ∀ b off s, A = some ⟨b, off, s⟩ → b ≠ ob ∧ O.ownBlock ≠ some b ∧ b < w.heap.size
theorem FrS.ls {w w' : World} {ob : Nat} {O O' : Value} {A : Option Addr} {l : List Nat} (h : FrS w w' ob O O') (hl : LS w 0 w.heap.size A l) (hf : Free w ob O A) : LS w' 0 w'.heap.size A l :=
  ⟨hl.1, fun hn => by
    obtain ⟨b, off, rfl, h1, h2, h3⟩ := hl.2 hn
    obtain ⟨f1, f2, _⟩ := hf b off none rfl
    have hz := h.size
    exact ⟨b, off, rfl, h1, by omega, fun j hj => (World.cell?_of_block (a := ⟨b, off + j, none⟩) (h.block b h2 f1 f2)).trans (h3 j hj)⟩⟩
theorem FrS.free {w w' : World} {ob : Nat} {O O' : Value} {A : Option Addr} (h : FrS w w' ob O O') (hf : Free w ob O A) : Free w' ob O' A := fun b off s e => by
  obtain ⟨f1, f2, f3⟩ := hf b off s e
  have hz := h.size
  refine ⟨f1, fun e2 => ?_, by omega⟩
  rcases h.row with e1 | ⟨r, hr, e1⟩
  · exact f2 (e1.symm.trans e2)
  · rw [e1] at e2; injection e2 with e2; omega
theorem OutS.below {w w' : World} {ob lo : Nat} {L : List (List Nat)} {O : Value} {G : Nat → Option Addr} {c : Nat → Nat} (h : OutS w ob lo L O G c) (hb : Below w.heap.size w w') : OutS w' ob lo L O G c where
  box := (hb.block ob (Array.getElem?_eq_some_iff.1 h.box).1).trans h.box
  row := by
    have hr := h.row
    refine ⟨hr.1, ?_⟩
    rcases hr.2 with h1 | ⟨g, cap, cur, hv, hB, hh, hr⟩
    · exact .inl h1
    · exact .inr ⟨g, cap, cur, hv, hB, (hb.block g (Array.getElem?_eq_some_iff.1 hh).1).trans hh, hr⟩
  el := fun j hj => (h.el j hj).next hb
  apart := fun j hj b off s e => by
    obtain ⟨h1, h2, h3⟩ := h.apart j hj b off s e
    have := hb.size
    exact ⟨h1, h2, by omega⟩
theorem getD_app (L : List (List Nat)) (f : List Nat) : (∀ j, j < L.length → (L ++ [f]).getD j [] = L.getD j []) ∧ (L ++ [f]).getD L.length [] = f := by
  constructor
  · intro j hj
    rw [List.getD_eq_getElem?_getD, List.getD_eq_getElem?_getD, List.getElem?_append_left hj]
  · rw [List.getD_eq_getElem?_getD, List.getElem?_append_right (Nat.le_refl _), Nat.sub_self]
    rfl
def upG {α : Type} (f : Nat → α) (k : Nat) (x : α) : Nat → α := fun j => if j = k then x else f j
theorem upG_lt {α : Type} (f : Nat → α) (k : Nat) (x : α) {j : Nat} (h : j < k) : upG f k x j = f j := if_neg (by omega)
theorem upG_at {α : Type} (f : Nat → α) (k : Nat) (x : α) : upG f k x k = x := if_pos rfl
theorem OutS.push {w w1 : World} {ob lo : Nat} {L : List (List Nat)} {O O' : Value} {G : Nat → Option Addr} {c : Nat → Nat} {o : Obj} {A : Option Addr} {f : List Nat} {cA : Nat} (h : OutS w ob lo L O G c) (hlo : ob < lo) (hsz : lo ≤ w.heap.size)
    (hf : LS w 0 w.heap.size A f) (hfr : Free w ob O A) (hr : w1.ownsRow lo 34 1 O' (L.length + 1) ((List.range L.length).map (fun j => .slice (G j) (lnL L j) (c j)) ++ [.slice A f.length cA]))
    (hg : (w.alloc o).grownBy w1 O.ownBlock) (hat : O'.ownBlock = O.ownBlock ∨ O'.ownBlock = some (w.alloc o).heap.size) :
    OutS (w1.setCell ⟨ob, 0, none⟩ O') ob lo (L ++ [f]) O' (upG G L.length A) (upG c L.length cA) ∧ FrS w (w1.setCell ⟨ob, 0, none⟩ O') ob O O' := by
  have hobw : ob < w.heap.size := (Array.getElem?_eq_some_iff.1 h.box).1
  have hrowO : ∀ g, O.ownBlock = some g → lo ≤ g ∧ g < w.heap.size := fun g e => by
    rcases h.row.2 with ⟨e1, _⟩ | ⟨g', cap, cur, e1, hB, hh, _⟩
    · subst e1; simp [Value.ownBlock] at e
    · subst e1
      simp only [Value.ownBlock, Option.some.injEq] at e
      subst e
      exact ⟨hB, (Array.getElem?_eq_some_iff.1 hh).1⟩
  have hwa : (w.alloc o).heap.size = w.heap.size + 1 := World.size_alloc _ _
  have keep : ∀ k, k < w.heap.size → k ≠ ob → O.ownBlock ≠ some k → (w1.setCell ⟨ob, 0, none⟩ O').heap[k]? = w.heap[k]? := fun k hk h1 h2 =>
    (Below.heap_setCell _ _ _ _ (fun e => h1 e)).trans ((hg.block k (by omega) (fun e => h2 e.symm)).trans (Below.heap_alloc w o k hk))
  have hz1 := hg.size
  have hzs : (w1.setCell ⟨ob, 0, none⟩ O').heap.size = w1.heap.size := by simp
  have hfrs : FrS w (w1.setCell ⟨ob, 0, none⟩ O') ob O O' := ⟨hg.os, hg.tape, hg.output, by omega, keep, by
    rcases hat with e | e
    · exact .inl e
    · exact .inr ⟨_, by omega, e⟩⟩
  have hbox1 : w1.heap[ob]? = some (.cells #[O] 27 (0, 0)) :=
    (hg.block ob (by omega) (fun e => by have := (hrowO ob e.symm).1; omega)).trans ((Below.heap_alloc w o ob hobw).trans h.box)
  obtain ⟨d1, d2⟩ := getD_app L f
  have hln : (L ++ [f]).length = L.length + 1 := by simp
  refine ⟨⟨?_, ?_, ?_, ?_⟩, hfrs⟩
  · simp [World.setCell, Array.getElem?_modify, hbox1]
  · have hr2 : (w1.setCell ⟨ob, 0, none⟩ O').ownsRow lo 34 1 O' (L.length + 1) ((List.range L.length).map (fun j => .slice (G j) (lnL L j) (c j)) ++ [.slice A f.length cA]) := by
      refine ⟨hr.1, ?_⟩
      rcases hr.2 with h1 | ⟨g, cap, cur, hv, hB, hh, hr3⟩
      · exact .inl h1
      · exact .inr ⟨g, cap, cur, hv, hB, (Below.heap_setCell _ _ _ _ (fun e => by have e2 : g = ob := e; omega)).trans hh, hr3⟩
    have e : (List.range (L ++ [f]).length).map (fun j => Value.slice (upG G L.length A j) (lnL (L ++ [f]) j) (upG c L.length cA j)) = (List.range L.length).map (fun j => .slice (G j) (lnL L j) (c j)) ++ [.slice A f.length cA] := by
      rw [hln, List.range_succ, List.map_append]
      congr 1
      · refine List.map_congr_left fun j hj => ?_
        have hj2 := List.mem_range.1 hj
        unfold lnL
        rw [upG_lt _ _ _ hj2, upG_lt _ _ _ hj2, d1 j hj2]
      · show [Value.slice (upG G L.length A L.length) (lnL (L ++ [f]) L.length) (upG c L.length cA L.length)] = _
        unfold lnL
        rw [upG_at, upG_at, d2]
    rw [e, hln]
    exact hr2
  · intro j hj
    rw [hln] at hj
    by_cases hjl : j < L.length
    · rw [upG_lt _ _ _ hjl, d1 j hjl]
      exact hfrs.ls (h.el j hjl) (h.apart j hjl)
    · obtain rfl : j = L.length := by omega
      rw [upG_at, d2]
      exact hfrs.ls hf hfr
  · intro j hj
    rw [hln] at hj
    by_cases hjl : j < L.length
    · rw [upG_lt _ _ _ hjl]
      exact hfrs.free (h.apart j hjl)
    · obtain rfl : j = L.length := by omega
      rw [upG_at]
      exact hfrs.free hfr
end Go.Proofs.Ytkklacgoeopekaa
