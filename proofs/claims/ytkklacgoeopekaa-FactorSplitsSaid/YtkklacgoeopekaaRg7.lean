/- A range over an iterator that lays its elements in memory: one loop's law; the rounds go on, or leave by a return. -/
import Derived.Test.YtkklacgoeopekaaAlg
namespace Go.Proofs.Ytkklacgoeopekaa
open Go.RowKit Go.Shelf Go.Sort
set_option linter.unusedVariables false

/-- what the iterator promises: yield is called with an element for k0, k0 + 1, .., as G says of it, until a round hands back false, which one does at K at the latest -/
def IterC (P : Program) (gf : Nat) (lb : Array Value) (G : Nat → Value → World → Prop) (k0 K : Nat) (B : World → Prop) : Prop :=
  ∀ (l : Nat) (J : Nat → World → Prop) (Jx : World → Prop) (W : World), (∀ k W1 W2, J k W1 → Below W.heap.size W1 W2 → J k W2) → (∀ k W1, J k W1 → B W1 ∧ W.heap.size ≤ W1.heap.size) →
    (∀ k v W1, J k W1 → k0 ≤ k → k ≤ K → G k v W1 → YieldAt Fence.wide 7 P l #[v] W1 fun e W2 => (e = .returned (.bool true) ∧ k < K ∧ J (k + 1) W2) ∨ (e = .returned (.bool false) ∧ Jx W2)) →
    J k0 W → CallsIn Fence.wide 8 P gf (#[.func (.yield l) #[] #[]] ++ lb) W fun e W2 => (∃ v, e = .returned v) ∧ Jx W2
/-- the two blocks of the loop lie as they lay -/
def Kept2 (B : Nat) (W W' : World) : Prop := W'.heap[B + 1]? = W.heap[B + 1]? ∧ W'.heap[B]? = W.heap[B]?
theorem Kept2.refl (B : Nat) (W : World) : Kept2 B W W := ⟨rfl, rfl⟩
theorem Kept2.trans {B : Nat} {X Y Z : World} (h : Kept2 B X Y) (k : Kept2 B Y Z) : Kept2 B X Z := ⟨k.1.trans h.1, k.2.trans h.2⟩
/-- how a round ends -/
def roundEnd (B K : Nat) (J : Nat → World → Prop) (Jx : World → Prop) (k : Nat) (W : World) : Exit → Act → World → Prop
  | .normal, _, W' => Kept2 B W W' ∧ k < K ∧ J (k + 1) W'
  | .ret, _, W' => Kept2 B W W' ∧ Jx W'
  | _, _, _ => False
theorem below_put {B l : Nat} {W : World} {o o' : Obj} (hl : B ≤ l) (h : W.heap[l]? = some o) : Below B W (W.putObj l o') :=
  (Below.refl B W).grown (grownBy_putObj' W l o') (by have := (Array.getElem?_eq_some_iff.1 h).1; omega) (fun q e => by cases e; omega)
theorem wp_rangeFunc_it {P : Program} {g : Operand} {p : Tmp} {assign body : Code} {Q : Exit → Act → World → Prop} {a : Act} {w : World}
    {gf : Nat} {lb : Array Value} (hg : a.eval g = .func (.func gf) #[] lb) (eg : ∀ args w, (callFunc gf args).run P w = .ok (.enter gf args) w)
    {G : Nat → Value → World → Prop} {k0 K : Nat} {B : World → Prop} (hit : IterC P gf lb G k0 K B) (J : Nat → World → Prop) (Jx : World → Prop)
    (hJ : ∀ k W1 W2, J k W1 → Below w.heap.size W1 W2 → J k W2) (hB : ∀ k W1, J k W1 → B W1)
    (hG : ∀ k v W1 W2, G k v W1 → (∃ r o, W1.heap[w.heap.size + 1]? = some (.loop r) ∧ W2 = W1.putObj (w.heap.size + 1) o) → G k v W2)
    (hJx : ∀ W1 r o, Jx W1 → W1.heap[w.heap.size + 1]? = some (.loop r) → Jx (W1.putObj (w.heap.size + 1) o)) (h0 : J k0 w)
    (hab : ∃ a₁ : Value → Act, (∀ (l : Nat) (v : Value) (W : World) (L : Act → World → Prop), L (a₁ v) W → assign.wpIn (Fence.wide.inRound l) 7 P (Exit.then L (fun _ _ _ => False)) { tmps := a.tmps.setIfInBounds p v, defers := [] } W) ∧
      ∀ (l k : Nat) (v : Value) (W : World), J k W → k0 ≤ k → k ≤ K → G k v W → w.heap.size + 1 < W.heap.size → body.wpIn (Fence.wide.inRound l) 7 P (roundEnd w.heap.size K J Jx k W) (a₁ v) W)
    (hstop : ∀ W, Jx W → W.heap[w.heap.size]? = some (.deferred (some [])) → Code.ret.wp P Q { a with defers := { target := .collected w.heap.size, args := #[] } :: a.defers } W) :
    (Code.rangeFunc g #[p] assign body).wp P Q a w := by
  obtain ⟨a₁, hassign, hbody⟩ := hab
  refine (wpIn_wide (n := 9)).1 (wpIn_rangeFunc fun fn hfn => ?_)
  obtain ⟨D, hD⟩ : ∃ D, w.heap.size = D := ⟨_, rfl⟩
  -- the record, by its state and its pending jump
  obtain ⟨rc, hrc⟩ : ∃ rc : LoopState → Option Code → Loop, rc = fun st pe => { state := st, pending := pe, fn, tmps := a.tmps, params := #[p], assign, body, defers := w.heap.size } := ⟨_, rfl⟩
  obtain ⟨W1, hW1⟩ : ∃ W1, W1 = (w.alloc (.deferred (some []))).alloc (.loop (rc .ready none)) := ⟨_, rfl⟩
  have hz1 : W1.heap.size = w.heap.size + 2 := by rw [hW1]; simp
  have hL : W1.heap[w.heap.size + 1]? = some (.loop (rc .ready none)) := by
    have := World.alloc_heap_new (w.alloc (.deferred (some []))) (.loop (rc .ready none))
    rw [World.size_alloc] at this
    rw [hW1]; exact this
  have hK : W1.heap[w.heap.size]? = some (.deferred (some [])) := by rw [hW1]; exact (Below.heap_alloc _ _ _ (by simp)).trans (World.alloc_heap_new w _)
  have hb1 : Below w.heap.size w W1 := by rw [hW1]; exact ((Below.refl _ w).alloc (Nat.le_refl _) _).alloc (by simp) _
  have hrun : (Instr.enterLoop fn a.tmps #[p] assign body none).run P w = .ok (w.heap.size + 1, [{ target := .collected w.heap.size, args := #[] }]) W1 := by
    rw [hW1, hrc]; exact run_enterLoop_outer _ _ _ _ _
  refine ⟨w.heap.size + 1, [{ target := .collected w.heap.size, args := #[] }], W1, { target := .fn (.func gf) lb, args := #[.func (.yield (w.heap.size + 1)) #[] #[]] }, W1, gf, #[.func (.yield (w.heap.size + 1)) #[] #[]] ++ lb, W1, hrun, ?_, fun _ _ => trivial, ?_, fun _ => by omega, ?_⟩
  · simp only [resolve, hg]
    simp [go_sem]
  · simp [invoke, go_sem, eg]
  refine (hit (w.heap.size + 1) (fun k W => J k W ∧ W.heap[w.heap.size + 1]? = some (.loop (rc .ready none)) ∧ W.heap[w.heap.size]? = some (.deferred (some [])))
    (fun W => Jx W ∧ W.heap[w.heap.size + 1]? = some (.loop (rc .done (some .ret))) ∧ W.heap[w.heap.size]? = some (.deferred (some []))) W1
    (fun k X Y h hb => ⟨hJ k X Y h.1 (hb.mono (by omega)), (hb.block _ (by omega)).trans h.2.1, (hb.block _ (by omega)).trans h.2.2⟩) (fun k X h => ⟨hB k X h.1, by have := (Array.getElem?_eq_some_iff.1 h.2.1).1; omega⟩) ?_ ⟨hJ _ _ _ h0 hb1, hL, hK⟩).mono ?_
  · rintro k v W ⟨hj, hl, hk⟩ hk0 hkK hg1
    have hlt : w.heap.size + 1 < W.heap.size := (Array.getElem?_eq_some_iff.1 hl).1
    have hy := run_yield (P := P) (args := #[v]) hl (by rw [hrc]; rfl)
    rw [hrc] at hy
    have et : (#[p].zip #[v]).foldl (fun (t : Array Value) (x : Tmp × Value) => t.setIfInBounds x.1 x.2) a.tmps = a.tmps.setIfInBounds p v := by simp
    refine ⟨fn, _, assign, body, hy, roundIn_of_wpIn hfn ?_⟩
    simp only
    rw [show (Array.foldl (fun t x => match x with | (p, v) => t.setIfInBounds p v) a.tmps (#[p].zip #[v])) = a.tmps.setIfInBounds p v from by simp]
    refine hassign (w.heap.size + 1) v W _ ⟨_, run_beginRound hl (by rw [hrc]), ?_⟩
    obtain ⟨X, hX⟩ : ∃ X, X = W.putObj (w.heap.size + 1) (.loop { rc .ready none with state := .busy }) := ⟨_, rfl⟩
    have hXl : X.heap[w.heap.size + 1]? = some (.loop { rc .ready none with state := .busy }) := by rw [hX]; exact World.putObj_heap_same hlt
    have hXk : X.heap[w.heap.size]? = some (.deferred (some [])) := by rw [hX]; exact (World.putObj_heap_other (by omega)).trans hk
    have hXj : J k X := by rw [hX]; exact hJ _ _ _ hj (below_put (by omega) hl)
    have hXg : G k v X := hG _ _ _ _ hg1 ⟨_, _, hl, hX⟩
    have hXz : w.heap.size + 1 < X.heap.size := (Array.getElem?_eq_some_iff.1 hXl).1
    rw [← hX]
    refine wpIn_mono (hbody _ k v X hXj hk0 hkK hXg hXz) ?_
    rintro e b Y he
    -- what the end of a round does
    have fin : ∀ (jump : Option Code), Kept2 w.heap.size X Y → (Instr.endRound (w.heap.size + 1) jump).run P Y = .ok (.bool jump.isNone) (Y.putObj (w.heap.size + 1) (.loop (rc (if jump.isNone then .ready else .done) jump))) ∧
        Y.heap[w.heap.size + 1]? = some (.loop { rc .ready none with state := .busy }) ∧ (Y.putObj (w.heap.size + 1) (.loop (rc (if jump.isNone then .ready else .done) jump))).heap[w.heap.size + 1]? = some (.loop (rc (if jump.isNone then .ready else .done) jump)) ∧
        (Y.putObj (w.heap.size + 1) (.loop (rc (if jump.isNone then .ready else .done) jump))).heap[w.heap.size]? = some (.deferred (some [])) := fun jump hk2 => by
      have h3 := hk2.1.trans hXl
      have h4 := run_endRound (P := P) jump h3
      rw [hrc] at h4 ⊢
      exact ⟨h4, by rw [hrc] at h3; exact h3, World.putObj_heap_same (Array.getElem?_eq_some_iff.1 h3).1, (World.putObj_heap_other (by omega)).trans (hk2.2.trans hXk)⟩
    cases e with
    | normal =>
      obtain ⟨h1, h2, h3⟩ := he
      obtain ⟨r1, r2, r3, r4⟩ := fin none h1
      exact ⟨_, _, r1, .inl ⟨rfl, h2, hJ _ _ _ h3 (below_put (by omega) r2), r3, r4⟩⟩
    | ret =>
      obtain ⟨h1, h2⟩ := he
      obtain ⟨r1, r2, r3, r4⟩ := fin (some .ret) h1
      exact ⟨_, _, r1, .inr ⟨rfl, hJx _ _ _ h2 r2, r3, r4⟩⟩
    | exit id => exact he.elim
    | goto t => exact he.elim
    | panic ch => exact he.elim
    | outgrown => exact he.elim
  · rintro e W2 ⟨⟨v, rfl⟩, hx, hl, hk⟩
    have hend := run_endLoop (P := P) hl (by rw [hrc]; simp)
    rw [hrc] at hend
    exact ⟨some .ret, _, hend, wpIn_wide.2 (hstop _ (hJx _ _ _ hx hl) ((World.putObj_heap_other (by omega)).trans hk))⟩
end Go.Proofs.Ytkklacgoeopekaa
