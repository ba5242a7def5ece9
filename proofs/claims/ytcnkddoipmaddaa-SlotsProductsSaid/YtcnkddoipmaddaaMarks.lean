/- What functions with a range over a function need: their contract out of their body; boxed variables. -/
import Derived.RangeFuncNested
import Derived.RangeFuncBound
import Derived.RangeFuncCalls
import Derived.RangeFuncLeaves
import Derived.Shelf.Abstract
import Derived.Shelf.RegionOpen
import Derived.WalkKit
import Derived.Lib.QuietBelow
import Derived.Sort.QuietThIn
import Derived.OwnWalkIn
import Derived.TacticsInMore
import Derived.LoopNIn
import Derived.LoopIn
namespace Go.Proofs.Ytcnkddoipmaddaa
open Go.RowKit Go.Shelf Go.Sort

theorem box_at {W : World} {B : Nat} {v : Value} {t : TypeId} (h : W.heap[B]? = some (.cells #[v] t (0, 0))) : W.cell? ⟨B, 0, none⟩ = some v ∧ W.frozen? ⟨B, 0, none⟩ = false := by
  constructor <;> simp [World.cell?, World.frozen?, h]
theorem box_new (W : World) (v : Value) (t : TypeId) : (W.alloc (.cells #[v] t)).cell? ⟨W.heap.size, 0, none⟩ = some v ∧ (W.alloc (.cells #[v] t)).frozen? ⟨W.heap.size, 0, none⟩ = false :=
  box_at (World.alloc_heap_new W _)
theorem box_alloc {W : World} {a : Addr} {v : Value} (o : Obj) (h : W.cell? a = some v) : (W.alloc o).cell? a = some v := cell_kept h (World.grownBy_alloc W o none) (fun r e => by cases e)
theorem box_frozen {W : World} {a : Addr} {v : Value} (o : Obj) (h : W.cell? a = some v) (hf : W.frozen? a = false) : (W.alloc o).frozen? a = false := (frozen_kept h (World.grownBy_alloc W o none) (fun r e => by cases e)).trans hf

/-- what the body of such a function must achieve; it never panics -/
def PostR (P : Program) (fn : Func) (R : Ending → World → Prop) : Exit → Act → World → Prop
  | .ret, a, w => LeavesInM Fence.wide 9 P fn a.tmps R a.defers .returning w
  | .normal, a, w => LeavesInM Fence.wide 9 P fn a.tmps R a.defers .returning w
  | .outgrown, _, w => R .outgrown w
  | _, _, _ => False
theorem calls_of_marks {P : Program} {f : FuncId} {fn : Func} {c : Code} {args : Array Value} {w : World} {R : Ending → World → Prop} (hf : P.funcs[f]? = some fn) (hb : fn.body = some c)
    (h : c.wp P (PostR P fn R) { tmps := args ++ Array.replicate (fn.ntmps - args.size) undef, defers := [] } w) : Calls P f args w R :=
  (callsIn_wide (n := 9)).1 (callsIn_of_wp_marks hf hb trivial (wpIn_mono (wpIn_wide.2 h) fun e a w he => by cases e <;> first | exact he | exact he.elim) rfl)
theorem marks_end {P : Program} {fn : Func} {R : Ending → World → Prop} {a : Act} {w : World} (hd : a.defers = []) (v : Value) (h : (results fn a.tmps).run P w = .ok v w) (hR : R (.returned v) w) : PostR P fn R .ret a w := by
  show LeavesInM _ _ _ _ _ _ _ _ _
  rw [hd]
  exact ⟨v, h, hR⟩
theorem marks_end1 {P : Program} {fn : Func} {R : Ending → World → Prop} {a : Act} {w : World} {D : Nat} (hd : a.defers = [{ target := .collected D, args := #[] }]) (hK : w.heap[D]? = some (.deferred (some []))) (v : Value)
    (h : (results fn a.tmps).run P (w.putObj D (.deferred none)) = .ok v (w.putObj D (.deferred none))) (hR : R (.returned v) (w.putObj D (.deferred none))) : PostR P fn R .ret a w := by
  show LeavesInM _ _ _ _ _ _ _ _ _
  rw [hd]
  exact ⟨by simp, .inl ⟨_, _, rfl, run_takeDeferred hK, v, h, hR⟩⟩
theorem below_shut {n₀ : Nat} {w w' : World} {D : Nat} (h : Below n₀ w w') (hn : n₀ ≤ D) (hK : w'.heap[D]? = some (.deferred (some []))) : Below n₀ w (w'.putObj D (.deferred none)) :=
  h.grown (grownBy_putObj' w' D (.deferred none)) (by have := (Array.getElem?_eq_some_iff.1 hK).1; omega) (fun k e => by cases e; exact hn)
theorem box_shut {W : World} {a : Addr} {v : Value} {D : Nat} (h : W.cell? a = some v) (hK : W.heap[D]? = some (.deferred (some []))) : (W.putObj D (.deferred none)).cell? a = some v :=
  cell_kept h (grownBy_putObj' _ D (.deferred none)) (fun r e => by cases e; exact ⟨_, hK, rfl⟩)
theorem boxes4 (w : World) (v1 v2 v3 v4 : Value) (t1 t2 t3 t4 : Nat) (w4 : World) (h : w4 = (((w.alloc (.cells #[v1] t1)).alloc (.cells #[v2] t2)).alloc (.cells #[v3] t3)).alloc (.cells #[v4] t4)) :
    w4.cell? ⟨w.heap.size, 0, none⟩ = some v1 ∧ w4.cell? ⟨w.heap.size + 1, 0, none⟩ = some v2 ∧ w4.cell? ⟨w.heap.size + 1 + 1, 0, none⟩ = some v3 ∧ w4.cell? ⟨w.heap.size + 1 + 1 + 1, 0, none⟩ = some v4 ∧
      w4.frozen? ⟨w.heap.size + 1 + 1, 0, none⟩ = false ∧ w4.frozen? ⟨w.heap.size + 1 + 1 + 1, 0, none⟩ = false ∧ w4.heap.size = w.heap.size + 4 := by
  have c1 := box_new w v1 t1
  have z1 : (w.alloc (.cells #[v1] t1)).heap.size = w.heap.size + 1 := World.size_alloc _ _
  generalize w.alloc (.cells #[v1] t1) = w1 at *
  have c2 := box_new w1 v2 t2
  have z2 : (w1.alloc (.cells #[v2] t2)).heap.size = w1.heap.size + 1 := World.size_alloc _ _
  have d1 := box_alloc (.cells #[v2] t2) c1.1
  generalize w1.alloc (.cells #[v2] t2) = w2 at *
  have c3 := box_new w2 v3 t3
  have z3 : (w2.alloc (.cells #[v3] t3)).heap.size = w2.heap.size + 1 := World.size_alloc _ _
  have d1 := box_alloc (.cells #[v3] t3) d1
  have d2 := box_alloc (.cells #[v3] t3) c2.1
  generalize w2.alloc (.cells #[v3] t3) = w3 at *
  have c4 := box_new w3 v4 t4
  have z4 : (w3.alloc (.cells #[v4] t4)).heap.size = w3.heap.size + 1 := World.size_alloc _ _
  have d1 := box_alloc (.cells #[v4] t4) d1
  have d2 := box_alloc (.cells #[v4] t4) d2
  have d3 := box_alloc (.cells #[v4] t4) c3.1
  have f3 := box_frozen (.cells #[v4] t4) c3.1 c3.2
  rw [← h] at *
  rw [z3, z2, z1] at *
  exact ⟨d1, d2, d3, c4.1, f3, c4.2, by omega⟩


/-- the law of a range over a function, in a plain walk; the frame behind the assignment is found by the walk -/
theorem wp_rangeFunc_own {P : Program} {α : Type} {g : Operand} {ps : Array Tmp} {assign body : Code} {Q : Exit → Act → World → Prop} {a : Act} {w : World}
    {gf : Nat} {lb : Array Value} (hg : a.eval g = .func (.func gf) #[] lb) (eg : ∀ args w, (callFunc gf args).run P w = .ok (.enter gf args) w)
    {encs : α → Array Value} {Kp : World → World → Prop} {S Sp : List α → Prop} {N : Nat} {w0 : World} (hseq : SeqStopsK Fence.wide 8 P gf lb encs Kp S Sp N w0)
    (hKt : ∀ {A B C : World}, Kp A B → Kp B C → Kp A C) (hKb : ∀ (W : World) (l : Nat) (o o' : Obj), w.heap.size ≤ l → W.heap[l]? = some o → o.isCells = false → o.isWalk = false → Kp W (W.putObj l o')) (hb0 : Below w0.heap.size w0 w) (hps : ∀ x, (encs x).size = ps.size)
    (I : List α → World → Prop) (Ix : Code → List α → World → Prop) (hI : OwnFrom w.heap.size I) (hIx : ∀ c, OwnFrom w.heap.size (Ix c)) (h0 : I [] w)
    (hab : ∃ a₁ : α → Act, (∀ (l : Nat) (x : α) (W : World) (K : Act → World → Prop), K (a₁ x) W →
      assign.wpIn (Fence.wide.inRound l) 7 P (Exit.then K (fun _ _ _ => False)) { tmps := (ps.zip (encs x)).foldl (fun t (p, v) => t.setIfInBounds p v) a.tmps, defers := [] } W) ∧
      ∀ (l : Nat) (pre : List α) (x : α) (W : World), I pre W → pre.length < N → body.wpIn (Fence.wide.inRound l) 7 P (ownPostK Kp I Ix (pre ++ [x]) W) (a₁ x) W)
    (hdone : ∀ (D : Nat) (xs : List α) (W : World), w.heap.size ≤ D → S xs → I xs W → W.heap[D]? = some (.deferred (some [])) → Q .normal { a with defers := { target := .collected D, args := #[] } :: a.defers } W)
    (hstop : ∀ (D : Nat) (c : Code) (pre : List α) (W : World), w.heap.size ≤ D → Sp pre → Ix c pre W → W.heap[D]? = some (.deferred (some [])) → c.wp P Q { a with defers := { target := .collected D, args := #[] } :: a.defers } W) :
    (Code.rangeFunc g ps assign body).wp P Q a w := by
  obtain ⟨a₁, h1, h2⟩ := hab
  exact (wpIn_wide (n := 9)).1 (wpIn_rangeFunc_ownF (F := Fence.wide) (n := 9) rfl (by omega) hg trivial eg hseq hKt hKb hb0 hps I Ix hI hIx h0 a₁ h1 h2 hdone (fun D c pre W g1 g2 g3 g4 => wpIn_wide.2 (hstop D c pre W g1 g2 g3 g4)))
theorem keeps_below {w w' : World} (h : Below w.heap.size w w') : KeepsOthers w w' := ⟨h.size, fun j _ ho _ => (h.block j (Array.getElem?_eq_some_iff.1 ho).1).trans ho⟩

/-! ### a region that draws its order, within a round: walked once, in the order of the text -/
section
variable {P : Program} {ops : Array Oper}
theorem quietIn_of_quiet {n : Nat} {o : Oper} {a : Act} {C : World → Prop} {K K' : Act → Prop} (hk : ∀ a, K a → K' a) (h : o.quiet P a C K) : o.quietIn Fence.wide n P a C K' := by
  obtain ⟨v, h1, h2⟩ := h
  refine ⟨v, fun w hw => ?_, hk _ h2⟩
  have h3 := h1 w hw
  unfold Oper.quietAt at h3
  unfold Oper.quietAtIn
  generalize Sem.run P (execOp a.eval o) w = r at h3 ⊢
  cases r with
  | ok x w' =>
    cases x with
    | enter f args => exact ⟨h3.1, fun h => absurd h (by decide), callsIn_wide.2 h3.2⟩
    | _ => exact h3
  | halt x w' => exact h3
theorem quiet_wide {n : Nat} {C : World → Prop} {Q : Act → Prop} : ∀ (l : List Oper) (a : Act), wpQuiet P ops C Q l a → wpQuietIn Fence.wide n P ops C Q l a
  | [], _, h => h
  | o :: rest, a, h => by
    refine ⟨fun _ _ _ _ => trivial, ?_⟩
    have h0 : if Region.wanted o (yielded ops a.tmps) then o.quiet P a C (wpQuiet P ops C Q rest) else wpQuiet P ops C Q rest (a.put o.dst undef) := h
    split
    · rename_i hw
      rw [if_pos hw] at h0
      exact quietIn_of_quiet (fun a => quiet_wide rest a) h0
    · rename_i hw
      rw [if_neg hw] at h0
      exact quiet_wide rest _ h0
def noDefer (l : List Oper) : Bool := l.all fun o => match o.op with
  | .defer _ => false
  | _ => true
theorem noDefer_spec {l : List Oper} (h : noDefer l = true) {i : Nat} {o : Oper} (ho : l.toArray[i]? = some o) : ∀ c, o.op ≠ .defer c := by
  intro c hc
  have h1 := List.all_eq_true.1 h o (by
    have : l[i]? = some o := by simpa using ho
    exact List.mem_of_getElem? this)
  rw [hc] at h1
  cases h1
theorem any_round {lr n : Nat} {md : Region.Mode} {Q : Exit → Act → World → Prop} (hd : ∀ (i : Nat) (o : Oper), ops[i]? = some o → ∀ c, o.op ≠ .defer c) :
    ∀ (fuel : Nat) (listed : Array Bool) (a : Act) (w : World), wpAnyIn Fence.wide n P md ops Q fuel listed a w → wpAnyIn (Fence.wide.inRound lr) n P md ops Q fuel listed a w
  | 0, _, _, _, h => h
  | fuel + 1, listed, a, w, h => by
    refine ⟨h.1, fun i hi => ?_⟩
    have h1 := wpOpIn_mono (fun a w => any_round (lr := lr) hd fuel (listed.setIfInBounds i true) a w) (h.2 i hi)
    unfold wpOpIn at h1 ⊢
    cases ho : ops[i]? with
    | none => rw [ho] at h1; exact h1
    | some o =>
      rw [ho] at h1
      simp only at h1 ⊢
      split
      · rename_i hw
        rw [if_pos hw] at h1
        refine ⟨h1.1, ?_⟩
        have h2 := h1.2
        rw [show Fence.wide.round = none from rfl, Oper.semAt_none] at h2
        show Oper.uponIn _ n P o a _ Q (Sem.run P (o.semAt (some lr) a.eval) w)
        rw [Oper.semAt_some lr _ _ (hd i o ho)]
        exact h2
      · rename_i hw
        rw [if_neg hw] at h1
        exact h1
end
theorem region_round {P : Program} {id : Nat} {Q : Exit → Act → World → Prop} {a : Act} {w : World} {l : List Oper} {lr n : Nat} (hm : P.follows .mixedOrders = true) (hB : Region.lexB .any l.toArray = true) (hd : noDefer l = true)
    (h : wpQuiet P l.toArray (fun w' => ∃ p : Regrown, w' = grow (redrawn w p.d) p.os) (fun a' => ∀ w', (∃ p : Regrown, w' = grow (redrawn w p.d) p.os) → Q .normal a' w') l a) : (Code.region id l.toArray true).wpIn (Fence.wide.inRound lr) n P Q a w := by
  have hB' := hB
  simp only [Region.lexB, Bool.and_eq_true] at hB'
  refine wpIn_region_any hm (any_round (fun i o ho => noDefer_spec hd ho) _ _ _ _ (wpAnyIn_of_quiet (C := fun w' => ∃ p : Regrown, w' = grow (redrawn w p.d) p.os) (Q := fun a' => ∀ w', (∃ p : Regrown, w' = grow (redrawn w p.d) p.os) → Q .normal a' w') rfl (fun _ w' hw' h => h w' hw') _ _ _ _ ⟨⟨w.drawn + 1, #[]⟩, by rw [grow_empty]; rfl⟩ ?_))
  have := wpAnyQIn_lex (F := Fence.wide) (n := n) (md := .any) hB'.1 l 0 (Array.replicate l.toArray.size false) a (by simp) (by simpa using hB'.2) (quiet_wide l a h)
  simpa using this
end Go.Proofs.Ytcnkddoipmaddaa
