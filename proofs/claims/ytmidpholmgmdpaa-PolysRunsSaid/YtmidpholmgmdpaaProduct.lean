/- What functions with a range over a function need: their contract out of their body; boxed variables. -/
/- The contracts of small functions of the reference: at, Same, power, Trim; and of the law's own: large, spoil, lent, kept. -/
/- The contract of poly.valid, at any number of polynomials; at one and at two. -/
/- The contract of poly.product. -/
import Derived.RangeFuncNested
import Derived.RangeFuncBound
import Derived.RangeFuncCalls
import Derived.RangeFuncLeaves
import Derived.Shelf.Abstract
import Derived.Shelf.RegionOpen
import Derived.WalkKit
import Derived.Lib.QuietBelow
import Derived.Sort.QuietThIn
import Derived.OwnWalkIn
import Derived.TacticsInMore
import Derived.LoopNIn
import Derived.LoopIn
import Derived.Test.YtmidpholmgmdpaaPairs
import Derived.Test.YtmidpholmgmdpaaAlg
import Derived.Test.YtmidpholmgmdpaaPow
namespace Go.Proofs.Ytmidpholmgmdpaa
open Go.RowKit Go.Shelf Go.Sort

theorem box_at {W : World} {B : Nat} {v : Value} {t : TypeId} (h : W.heap[B]? = some (.cells #[v] t (0, 0))) : W.cell? ⟨B, 0, none⟩ = some v ∧ W.frozen? ⟨B, 0, none⟩ = false := by
  constructor <;> simp [World.cell?, World.frozen?, h]
theorem box_new (W : World) (v : Value) (t : TypeId) : (W.alloc (.cells #[v] t)).cell? ⟨W.heap.size, 0, none⟩ = some v ∧ (W.alloc (.cells #[v] t)).frozen? ⟨W.heap.size, 0, none⟩ = false :=
  box_at (World.alloc_heap_new W _)
theorem box_alloc {W : World} {a : Addr} {v : Value} (o : Obj) (h : W.cell? a = some v) : (W.alloc o).cell? a = some v := cell_kept h (World.grownBy_alloc W o none) (fun r e => by cases e)
theorem box_frozen {W : World} {a : Addr} {v : Value} (o : Obj) (h : W.cell? a = some v) (hf : W.frozen? a = false) : (W.alloc o).frozen? a = false := (frozen_kept h (World.grownBy_alloc W o none) (fun r e => by cases e)).trans hf

/-- what the body of such a function must achieve; it never panics -/
def PostR (P : Program) (fn : Func) (R : Ending → World → Prop) : Exit → Act → World → Prop
  | .ret, a, w => LeavesInM Fence.wide 9 P fn a.tmps R a.defers .returning w
  | .normal, a, w => LeavesInM Fence.wide 9 P fn a.tmps R a.defers .returning w
  | .outgrown, _, w => R .outgrown w
  | _, _, _ => False
theorem calls_of_marks {P : Program} {f : FuncId} {fn : Func} {c : Code} {args : Array Value} {w : World} {R : Ending → World → Prop} (hf : P.funcs[f]? = some fn) (hb : fn.body = some c)
    (h : c.wp P (PostR P fn R) { tmps := args ++ Array.replicate (fn.ntmps - args.size) undef, defers := [] } w) : Calls P f args w R :=
  (callsIn_wide (n := 9)).1 (callsIn_of_wp_marks hf hb trivial (wpIn_mono (wpIn_wide.2 h) fun e a w he => by cases e <;> first | exact he | exact he.elim) rfl)
theorem marks_end {P : Program} {fn : Func} {R : Ending → World → Prop} {a : Act} {w : World} (hd : a.defers = []) (v : Value) (h : (results fn a.tmps).run P w = .ok v w) (hR : R (.returned v) w) : PostR P fn R .ret a w := by
  show LeavesInM _ _ _ _ _ _ _ _ _
  rw [hd]
  exact ⟨v, h, hR⟩
theorem marks_end1 {P : Program} {fn : Func} {R : Ending → World → Prop} {a : Act} {w : World} {D : Nat} (hd : a.defers = [{ target := .collected D, args := #[] }]) (hK : w.heap[D]? = some (.deferred (some []))) (v : Value)
    (h : (results fn a.tmps).run P (w.putObj D (.deferred none)) = .ok v (w.putObj D (.deferred none))) (hR : R (.returned v) (w.putObj D (.deferred none))) : PostR P fn R .ret a w := by
  show LeavesInM _ _ _ _ _ _ _ _ _
  rw [hd]
  exact ⟨by simp, .inl ⟨_, _, rfl, run_takeDeferred hK, v, h, hR⟩⟩
theorem below_shut {n₀ : Nat} {w w' : World} {D : Nat} (h : Below n₀ w w') (hn : n₀ ≤ D) (hK : w'.heap[D]? = some (.deferred (some []))) : Below n₀ w (w'.putObj D (.deferred none)) :=
  h.grown (grownBy_putObj' w' D (.deferred none)) (by have := (Array.getElem?_eq_some_iff.1 hK).1; omega) (fun k e => by cases e; exact hn)
theorem box_shut {W : World} {a : Addr} {v : Value} {D : Nat} (h : W.cell? a = some v) (hK : W.heap[D]? = some (.deferred (some []))) : (W.putObj D (.deferred none)).cell? a = some v :=
  cell_kept h (grownBy_putObj' _ D (.deferred none)) (fun r e => by cases e; exact ⟨_, hK, rfl⟩)
theorem boxes4 (w : World) (v1 v2 v3 v4 : Value) (t1 t2 t3 t4 : Nat) (w4 : World) (h : w4 = (((w.alloc (.cells #[v1] t1)).alloc (.cells #[v2] t2)).alloc (.cells #[v3] t3)).alloc (.cells #[v4] t4)) :
    w4.cell? ⟨w.heap.size, 0, none⟩ = some v1 ∧ w4.cell? ⟨w.heap.size + 1, 0, none⟩ = some v2 ∧ w4.cell? ⟨w.heap.size + 1 + 1, 0, none⟩ = some v3 ∧ w4.cell? ⟨w.heap.size + 1 + 1 + 1, 0, none⟩ = some v4 ∧
      w4.frozen? ⟨w.heap.size + 1 + 1, 0, none⟩ = false ∧ w4.frozen? ⟨w.heap.size + 1 + 1 + 1, 0, none⟩ = false ∧ w4.heap.size = w.heap.size + 4 := by
  have c1 := box_new w v1 t1
  have z1 : (w.alloc (.cells #[v1] t1)).heap.size = w.heap.size + 1 := World.size_alloc _ _
  generalize w.alloc (.cells #[v1] t1) = w1 at *
  have c2 := box_new w1 v2 t2
  have z2 : (w1.alloc (.cells #[v2] t2)).heap.size = w1.heap.size + 1 := World.size_alloc _ _
  have d1 := box_alloc (.cells #[v2] t2) c1.1
  generalize w1.alloc (.cells #[v2] t2) = w2 at *
  have c3 := box_new w2 v3 t3
  have z3 : (w2.alloc (.cells #[v3] t3)).heap.size = w2.heap.size + 1 := World.size_alloc _ _
  have d1 := box_alloc (.cells #[v3] t3) d1
  have d2 := box_alloc (.cells #[v3] t3) c2.1
  generalize w2.alloc (.cells #[v3] t3) = w3 at *
  have c4 := box_new w3 v4 t4
  have z4 : (w3.alloc (.cells #[v4] t4)).heap.size = w3.heap.size + 1 := World.size_alloc _ _
  have d1 := box_alloc (.cells #[v4] t4) d1
  have d2 := box_alloc (.cells #[v4] t4) d2
  have d3 := box_alloc (.cells #[v4] t4) c3.1
  have f3 := box_frozen (.cells #[v4] t4) c3.1 c3.2
  rw [← h] at *
  rw [z3, z2, z1] at *
  exact ⟨d1, d2, d3, c4.1, f3, c4.2, by omega⟩


/-- the law of a range over a function, in a plain walk; the frame behind the assignment is found by the walk -/
theorem wp_rangeFunc_own {P : Program} {α : Type} {g : Operand} {ps : Array Tmp} {assign body : Code} {Q : Exit → Act → World → Prop} {a : Act} {w : World}
    {gf : Nat} {lb : Array Value} (hg : a.eval g = .func (.func gf) #[] lb) (eg : ∀ args w, (callFunc gf args).run P w = .ok (.enter gf args) w)
    {encs : α → Array Value} {Kp : World → World → Prop} {S Sp : List α → Prop} {N : Nat} {w0 : World} (hseq : SeqStopsK Fence.wide 8 P gf lb encs Kp S Sp N w0)
    (hKt : ∀ {A B C : World}, Kp A B → Kp B C → Kp A C) (hKb : ∀ (W : World) (l : Nat) (o o' : Obj), w.heap.size ≤ l → W.heap[l]? = some o → o.isCells = false → o.isWalk = false → Kp W (W.putObj l o')) (hb0 : Below w0.heap.size w0 w) (hps : ∀ x, (encs x).size = ps.size)
    (I : List α → World → Prop) (Ix : Code → List α → World → Prop) (hI : OwnFrom w.heap.size I) (hIx : ∀ c, OwnFrom w.heap.size (Ix c)) (h0 : I [] w)
    (hab : ∃ a₁ : α → Act, (∀ (l : Nat) (x : α) (W : World) (K : Act → World → Prop), K (a₁ x) W →
      assign.wpIn (Fence.wide.inRound l) 7 P (Exit.then K (fun _ _ _ => False)) { tmps := (ps.zip (encs x)).foldl (fun t (p, v) => t.setIfInBounds p v) a.tmps, defers := [] } W) ∧
      ∀ (l : Nat) (pre : List α) (x : α) (W : World), I pre W → pre.length < N → body.wpIn (Fence.wide.inRound l) 7 P (ownPostK Kp I Ix (pre ++ [x]) W) (a₁ x) W)
    (hdone : ∀ (D : Nat) (xs : List α) (W : World), w.heap.size ≤ D → S xs → I xs W → W.heap[D]? = some (.deferred (some [])) → Q .normal { a with defers := { target := .collected D, args := #[] } :: a.defers } W)
    (hstop : ∀ (D : Nat) (c : Code) (pre : List α) (W : World), w.heap.size ≤ D → Sp pre → Ix c pre W → W.heap[D]? = some (.deferred (some [])) → c.wp P Q { a with defers := { target := .collected D, args := #[] } :: a.defers } W) :
    (Code.rangeFunc g ps assign body).wp P Q a w := by
  obtain ⟨a₁, h1, h2⟩ := hab
  exact (wpIn_wide (n := 9)).1 (wpIn_rangeFunc_ownF (F := Fence.wide) (n := 9) rfl (by omega) hg trivial eg hseq hKt hKb hb0 hps I Ix hI hIx h0 a₁ h1 h2 hdone (fun D c pre W g1 g2 g3 g4 => wpIn_wide.2 (hstop D c pre W g1 g2 g3 g4)))
theorem keeps_below {w w' : World} (h : Below w.heap.size w w') : KeepsOthers w w' := ⟨h.size, fun j _ ho _ => (h.block j (Array.getElem?_eq_some_iff.1 ho).1).trans ho⟩

/-! ### a region that draws its order, within a round: walked once, in the order of the text -/
section
variable {P : Program} {ops : Array Oper}
theorem quietIn_of_quiet {n : Nat} {o : Oper} {a : Act} {C : World → Prop} {K K' : Act → Prop} (hk : ∀ a, K a → K' a) (h : o.quiet P a C K) : o.quietIn Fence.wide n P a C K' := by
  obtain ⟨v, h1, h2⟩ := h
  refine ⟨v, fun w hw => ?_, hk _ h2⟩
  have h3 := h1 w hw
  unfold Oper.quietAt at h3
  unfold Oper.quietAtIn
  generalize Sem.run P (execOp a.eval o) w = r at h3 ⊢
  cases r with
  | ok x w' =>
    cases x with
    | enter f args => exact ⟨h3.1, fun h => absurd h (by decide), callsIn_wide.2 h3.2⟩
    | _ => exact h3
  | halt x w' => exact h3
theorem quiet_wide {n : Nat} {C : World → Prop} {Q : Act → Prop} : ∀ (l : List Oper) (a : Act), wpQuiet P ops C Q l a → wpQuietIn Fence.wide n P ops C Q l a
  | [], _, h => h
  | o :: rest, a, h => by
    refine ⟨fun _ _ _ _ => trivial, ?_⟩
    have h0 : if Region.wanted o (yielded ops a.tmps) then o.quiet P a C (wpQuiet P ops C Q rest) else wpQuiet P ops C Q rest (a.put o.dst undef) := h
    split
    · rename_i hw
      rw [if_pos hw] at h0
      exact quietIn_of_quiet (fun a => quiet_wide rest a) h0
    · rename_i hw
      rw [if_neg hw] at h0
      exact quiet_wide rest _ h0
def noDefer (l : List Oper) : Bool := l.all fun o => match o.op with
  | .defer _ => false
  | _ => true
theorem noDefer_spec {l : List Oper} (h : noDefer l = true) {i : Nat} {o : Oper} (ho : l.toArray[i]? = some o) : ∀ c, o.op ≠ .defer c := by
  intro c hc
  have h1 := List.all_eq_true.1 h o (by
    have : l[i]? = some o := by simpa using ho
    exact List.mem_of_getElem? this)
  rw [hc] at h1
  cases h1
theorem any_round {lr n : Nat} {md : Region.Mode} {Q : Exit → Act → World → Prop} (hd : ∀ (i : Nat) (o : Oper), ops[i]? = some o → ∀ c, o.op ≠ .defer c) :
    ∀ (fuel : Nat) (listed : Array Bool) (a : Act) (w : World), wpAnyIn Fence.wide n P md ops Q fuel listed a w → wpAnyIn (Fence.wide.inRound lr) n P md ops Q fuel listed a w
  | 0, _, _, _, h => h
  | fuel + 1, listed, a, w, h => by
    refine ⟨h.1, fun i hi => ?_⟩
    have h1 := wpOpIn_mono (fun a w => any_round (lr := lr) hd fuel (listed.setIfInBounds i true) a w) (h.2 i hi)
    unfold wpOpIn at h1 ⊢
    cases ho : ops[i]? with
    | none => rw [ho] at h1; exact h1
    | some o =>
      rw [ho] at h1
      simp only at h1 ⊢
      split
      · rename_i hw
        rw [if_pos hw] at h1
        refine ⟨h1.1, ?_⟩
        have h2 := h1.2
        rw [show Fence.wide.round = none from rfl, Oper.semAt_none] at h2
        show Oper.uponIn _ n P o a _ Q (Sem.run P (o.semAt (some lr) a.eval) w)
        rw [Oper.semAt_some lr _ _ (hd i o ho)]
        exact h2
      · rename_i hw
        rw [if_neg hw] at h1
        exact h1
end
theorem region_round {P : Program} {id : Nat} {Q : Exit → Act → World → Prop} {a : Act} {w : World} {l : List Oper} {lr n : Nat} (hm : P.follows .mixedOrders = true) (hB : Region.lexB .any l.toArray = true) (hd : noDefer l = true)
    (h : wpQuiet P l.toArray (fun w' => ∃ p : Regrown, w' = grow (redrawn w p.d) p.os) (fun a' => ∀ w', (∃ p : Regrown, w' = grow (redrawn w p.d) p.os) → Q .normal a' w') l a) : (Code.region id l.toArray true).wpIn (Fence.wide.inRound lr) n P Q a w := by
  have hB' := hB
  simp only [Region.lexB, Bool.and_eq_true] at hB'
  refine wpIn_region_any hm (any_round (fun i o ho => noDefer_spec hd ho) _ _ _ _ (wpAnyIn_of_quiet (C := fun w' => ∃ p : Regrown, w' = grow (redrawn w p.d) p.os) (Q := fun a' => ∀ w', (∃ p : Regrown, w' = grow (redrawn w p.d) p.os) → Q .normal a' w') rfl (fun _ w' hw' h => h w' hw') _ _ _ _ ⟨⟨w.drawn + 1, #[]⟩, by rw [grow_empty]; rfl⟩ ?_))
  have := wpAnyQIn_lex (F := Fence.wide) (n := n) (md := .any) hB'.1 l 0 (Array.replicate l.toArray.size false) a (by simp) (by simpa using hB'.2) (quiet_wide l a h)
  simpa using this
end Go.Proofs.Ytmidpholmgmdpaa

namespace Go.Proofs.Ytmidpholmgmdpaa
open Go.RowKit

set_option maxHeartbeats 400000 in
theorem at_any (A : Option Addr) (n c : Nat) (f : Nat → Nat) (i : Int) (w : World) (lo hi : Nat) (h : Sq .u32 w lo hi A n f) (hn : n ≤ 1000000) (h0 : 0 ≤ i) (hf : ∀ j, f j ≤ 4294967295) :
    Calls Try.prog 68 #[.slice A n c, .int .i64 i] w (RetP w (.int .u64 (f i.toNat))) := by
  obtain ⟨k, rfl⟩ := Int.eq_ofNat_of_zero_le h0
  rw [Int.toNat_natCast]
  by_cases hk : k < n
  · obtain ⟨b, off, rfl, _, _, hcell⟩ := h.2 (by omega)
    have hc1 := hcell k hk
    obtain ⟨x, hx⟩ : ∃ x, f k = x := ⟨_, rfl⟩
    have hxm := hf k
    rw [hx] at hc1 hxm
    rw [hx]
    clear hx hcell h hf
    go_enter Try.func68, Try.ntmps68
    go_wp2
    go_ret
    exact ⟨rfl, rfl⟩
  · rw [h.1 k (by omega)]
    clear h hf
    go_enter Try.func68, Try.ntmps68
    go_wp2
    go_ret
    exact ⟨rfl, rfl⟩

/-- the cells of a slice of slices -/
def Cs (w : World) (b L : Nat) (A : Nat → Option Addr) (n c : Nat → Nat) : Prop := ∀ i, i < L → w.cell? ⟨b, i, none⟩ = some (.slice (A i) (n i) (c i))

def two {α : Type} (x y : α) : Nat → α := fun i => if i = 0 then x else y

theorem Cs.two_ {w : World} {b n1 n2 c1 c2 : Nat} {A1 A2 : Option Addr} (h0 : w.cell? ⟨b, 0, none⟩ = some (.slice A1 n1 c1)) (h1 : w.cell? ⟨b, 1, none⟩ = some (.slice A2 n2 c2)) : Cs w b 2 (two A1 A2) (two n1 n2) (two c1 c2) := by
  intro i hi
  match i, hi with
  | 0, _ => exact h0
  | 1, _ => exact h1
theorem Cs.one_ {w : World} {b n1 c1 : Nat} {A1 : Option Addr} (h0 : w.cell? ⟨b, 0, none⟩ = some (.slice A1 n1 c1)) : Cs w b 1 (fun _ => A1) (fun _ => n1) (fun _ => c1) := by
  intro i hi
  match i, hi with
  | 0, _ => exact h0

def anyLong (L : Nat) (n : Nat → Nat) : Bool := (List.range L).any fun i => decide (300 < n i)

theorem anyLong_true {L k : Nat} {n : Nat → Nat} (hk : k < L) (h : 300 < n k) : anyLong L n = true := by
  unfold anyLong
  simp only [List.any_eq_true, List.mem_range, decide_eq_true_eq]
  exact ⟨k, hk, h⟩
theorem anyLong_false {L : Nat} {n : Nat → Nat} (h : ∀ k, k < L → n k ≤ 300) : anyLong L n = false := by
  unfold anyLong
  simp only [List.any_eq_false, List.mem_range, decide_eq_true_eq]
  intro k hk
  have := h k hk
  omega

/-- what spoil leaves: the block b alone is written -/
def RetSpoil (w : World) (b e n c : Nat) (f : Nat → Nat) (en : Ending) (w' : World) : Prop :=
  en = .returned (.tuple #[]) ∧ w'.rowIs b e c (ku .u32 fun j => if j < n then 4294967295 else f j) ∧ w.grownBy w' (some b) ∧ w'.heap.size = w.heap.size

theorem grownBy_setCell {w w' : World} {b i : Nat} {v : Value} (h : w.grownBy w' (some b)) : w.grownBy (w'.setCell ⟨b, i, none⟩ v) (some b) :=
  ⟨h.os, h.tape, h.output, by simpa using h.size, fun k hk hne => (Below.heap_setCell w' ⟨b, i, none⟩ v k (fun e => hne (by rw [e]))).trans (h.block k hk hne)⟩

set_option maxHeartbeats 400000 in
theorem rtrim_any (A : Option Addr) (n c : Nat) (f : Nat → Nat) (w : World) (lo hi : Nat) (h : Sq .u32 w lo hi A n f) (hc : n ≤ c) (hn : n ≤ 1000000) :
    Calls Try.prog 60 #[.slice A n c] w (RetSl w (tl f n) f) := by
  have HS := Lib.hid (sq_tl h)
  go_enter Try.func60, Try.ntmps60
  go_wp2
  go_loop [3] (fun t => ∃ k : Nat, k ≤ n ∧ t = .int .i64 k ∧ (∀ j, k ≤ j → j < n → f j = 0)) (fun t => (intOf t).toNat)
  case atStart => exact ⟨n, by omega, rfl, fun j h1 h2 => by omega⟩
  case round =>
    obtain ⟨k, hk, rfl, hz⟩ := hrel
    have HZ := Lib.hid hz
    clear hz
    by_cases hk0 : 0 < k
    · obtain ⟨b, off, rfl, _, _, hcell⟩ := h.2 (by omega)
      have hc1 := hcell (k-1) (by omega)
      obtain ⟨x, hx⟩ : ∃ x, f (k-1) = x := ⟨_, rfl⟩
      rw [hx] at hc1
      have HX := Lib.hid hx
      clear hx hcell h
      have hkz : ((k : Int) - 1).toNat = k - 1 := by omega
      by_cases hx0 : x = 0
      · subst hx0
        go_wp2
        go_round
        case rel =>
          refine ⟨k - 1, by omega, by go_num, fun j h1 h2 => ?_⟩
          rcases Nat.lt_or_ge j k with h | h
          · rw [show j = k - 1 from by omega, HX.out]
          · exact HZ.out j h h2
        case measure => simp [intOf]; omega
      · have hxz : ((x : Int) == 0) = false := by simp; omega
        have hT : tl f n = k := tl_unique hk HZ.out (fun _ => by rw [HX.out]; exact hx0)
        rw [hT] at HS
        have HT := Lib.hid hT
        clear hT
        go_wp2_with (at_builtin; refine wpl_append rfl _ _ _ rfl e32 rfl (Own.nil _ _ w.heap.size _) rfl HS.out f (fun j h => absurd h (Nat.not_lt_zero j)) (fun j => by rw [Nat.zero_add]) (by unfold maxLen; omega) (by omega) (Nat.le_refl _) ?_; intro A1 c1 w1 hown1 hg1 hb1 hat1)
        go_ret
        have hT := HT.out
        exact ⟨_, _, ret_slice (by omega), by have := hown1.le; omega, sq_n (hown1.sq (Nat.le_refl _)) (by omega), hb1⟩
    · obtain rfl : k = 0 := by omega
      have hT : tl f n = 0 := tl_unique hk HZ.out (fun h => absurd h (Nat.lt_irrefl 0))
      rw [hT] at HS
      have HT := Lib.hid hT
      clear hT h
      go_wp2_with (at_builtin; refine wpl_append rfl _ _ _ rfl e32 rfl (Own.nil _ _ w.heap.size _) rfl HS.out f (fun j h => absurd h (Nat.not_lt_zero j)) (fun j => by rw [Nat.zero_add]) (by unfold maxLen; omega) (by omega) (Nat.le_refl _) ?_; intro A1 c1 w1 hown1 hg1 hb1 hat1)
      go_ret
      have hT := HT.out
      exact ⟨_, _, ret_slice (by omega), by have := hown1.le; omega, sq_n (hown1.sq (Nat.le_refl _)) (by omega), hb1⟩

/-- what lent leaves: the elements, behind them the mark -/
def lentF (n : Nat) (f : Nat → Nat) : Nat → Nat := fun j => if j < n then f j else if j = n then 4294967295 else 0
theorem lentF_lt {n j : Nat} {f : Nat → Nat} (h : j < n) : lentF n f j = f j := if_pos h
theorem lentF_add {n : Nat} {f : Nat → Nat} (j : Nat) : lentF n f (n + j) = oneF 4294967295 j := by
  unfold lentF oneF
  rw [if_neg (by omega)]
  by_cases h : j = 0
  · rw [if_pos (by omega), if_pos h]
  · rw [if_neg (by omega), if_neg h]
def RetLent (w : World) (n : Nat) (f : Nat → Nat) (e : Ending) (w' : World) : Prop :=
  e = .returned (.slice (some ⟨w.heap.size, 0, none⟩) n (n + 1)) ∧ w'.rowIs w.heap.size 22 (n + 1) (ku .u32 (lentF n f)) ∧ Below w.heap.size w w' ∧ w.heap.size < w'.heap.size

end Go.Proofs.Ytmidpholmgmdpaa

namespace Go.Proofs.Ytmidpholmgmdpaa
open Go.RowKit

/-- the first error among L polynomials -/
def chkL (m : Nat) (n : Nat → Nat) (f : Nat → Nat → Nat) : Nat → Nat
  | 0 => 0
  | L + 1 => if chkL m n f L = 0 then chk m (n L) (f L) else chkL m n f L

theorem chkL_hit {m k x : Nat} {n : Nat → Nat} {f : Nat → Nat → Nat} (h : ∀ j, j < k → chk m (n j) (f j) = 0) (hx : chk m (n k) (f k) = x) (h0 : x ≠ 0) : ∀ L, k < L → chkL m n f L = x
  | 0, h => absurd h (Nat.not_lt_zero k)
  | L + 1, hl => by
    have hz : ∀ L, L ≤ k → chkL m n f L = 0 := by
      intro L
      induction L with
      | zero => intro _; rfl
      | succ L ih => intro hL; rw [chkL, if_pos (ih (by omega))]; exact h L (by omega)
    rw [chkL]
    rcases Nat.lt_or_ge k L with h1 | h1
    · rw [chkL_hit h hx h0 L h1, if_neg h0]
    · obtain rfl : k = L := by omega
      rw [if_pos (hz k (Nat.le_refl k)), hx]
theorem chkL_zero {m : Nat} {n : Nat → Nat} {f : Nat → Nat → Nat} : ∀ L, (∀ j, j < L → chk m (n j) (f j) = 0) → chkL m n f L = 0
  | 0, _ => rfl
  | L + 1, h => by rw [chkL, if_pos (chkL_zero L fun j hj => h j (by omega))]; exact h L (by omega)

/-- the polynomials of a slice of slices -/
def Ps (w : World) (lo hi L : Nat) (A : Nat → Option Addr) (n : Nat → Nat) (f : Nat → Nat → Nat) : Prop := ∀ i, i < L → Sq .u32 w lo hi (A i) (n i) (f i)

theorem chkL_two {m n1 n2 : Nat} {f1 f2 : Nat → Nat} : chkL m (two n1 n2) (two f1 f2) 2 = chk2 m n1 f1 n2 f2 := by
  show (if (if (0 : Nat) = 0 then chk m n1 f1 else 0) = 0 then chk m n2 f2 else (if (0 : Nat) = 0 then chk m n1 f1 else 0)) = _
  rw [if_pos rfl]
  rfl

end Go.Proofs.Ytmidpholmgmdpaa

namespace Go.Proofs.Ytmidpholmgmdpaa
open Go.RowKit

theorem retSl_nil {w w' : World} {F : Nat → Nat} {N : Nat} (h : ∀ j, F j = 0) (hb : Below w.heap.size w w') : RetSl w (tl F N) F (.returned (.slice none 0 0)) w' :=
  ⟨none, 0, by rw [tl_zeros h], by rw [tl_zeros h]; exact Nat.le_refl _, by rw [tl_zeros h]; exact ⟨fun j _ => h j, fun h => absurd h (Nat.lt_irrefl 0)⟩, hb⟩

set_option maxHeartbeats 1000000 in
theorem product_any (m n nb ca cb : Nat) (A B : Option Addr) (a b : Nat → Nat) (w : World) (lo hi : Nat) (ha : Sq .u32 w lo hi A n a) (hb : Sq .u32 w lo hi B nb b)
    (hm : 0 < m) (hm2 : m ≤ 2147483647) (haa : ∀ j, a j < m) (hbb : ∀ j, b j < m) (hn : n ≤ 1000) (hnb : nb ≤ 1000) (hhi : hi ≤ w.heap.size) :
    Calls Try.prog 55 #[.int .u32 m, .slice A n ca, .slice B nb cb] w (RetSl w (tl (mulF m a b) (n + nb)) (mulF m a b)) := by
  by_cases hn0 : n = 0
  · subst hn0
    have HZ := Lib.hid (mulF_zero (m := m) (b := b) (.inl fun j => ha.1 j (Nat.zero_le j)))
    clear ha hb haa hbb
    go_enter Try.func55, Try.ntmps55
    go_wp2
    go_ret
    exact retSl_nil HZ.out (Below.refl _ _)
  by_cases hnb0 : nb = 0
  · subst hnb0
    have HZ := Lib.hid (mulF_zero (m := m) (a := a) (.inr fun j => hb.1 j (Nat.zero_le j)))
    have hnz : ((n : Int) == 0) = false := by simp; omega
    clear ha hb haa hbb
    go_enter Try.func55, Try.ntmps55
    go_wp2
    go_ret
    exact retSl_nil HZ.out (Below.refl _ _)
  have hnz : ((n : Int) == 0) = false := by simp; omega
  have hnbz : ((nb : Int) == 0) = false := by simp; omega
  obtain ⟨N, hN⟩ : ∃ N, n + nb = N + 1 := ⟨n + nb - 1, by omega⟩
  have hN1 : (n : Int) + (nb : Int) - 1 = (N : Int) := by omega
  have hN2 : N ≤ 2000 := by omega
  have HN := Lib.hid hN
  have HN1 := Lib.hid hN1
  clear hN hN1
  go_enter Try.func55, Try.ntmps55
  go_wp2_with (at_make; refine wpl_make rfl _ _ _ rfl e32 .i64 .i64 _ _ N rfl rfl HN1.out HN1.out (by omega) (by unfold maxLen; omega) ?_; intro w1 hr1 hb1 hs1)
  go_loopw [29] (fun i wr => ∃ k : Nat, k ≤ n ∧ i = .int .i64 k ∧ wr.rowIs w.heap.size 22 N (ku .u32 fun j => pS a b k j % m) ∧ Below w.heap.size w wr ∧ w.heap.size < wr.heap.size) (fun i _ => n - (intOf i).toNat)
  case atStart =>
    refine ⟨0, Nat.zero_le _, rfl, hr1.congr fun j _ => ?_, hb1, hs1⟩
    simp [ku, pS, sumN]
  case round =>
    clear hr1 hb1 hs1
    obtain ⟨k, hk, rfl, hr, hbel, hsz⟩ := hrel
    by_cases hkn : k < n
    · obtain ⟨g, off, rfl, _, hg, hcell⟩ := ha.2 (by omega)
      have hc1 := (hbel.cell (p := ⟨g, off + k, none⟩) (show g < w.heap.size by omega)).trans (hcell k hkn)
      obtain ⟨x, hx⟩ : ∃ x, a k = x := ⟨_, rfl⟩
      have hxm := haa k
      rw [hx] at hc1 hxm
      have HX := Lib.hid hx
      have HR := Lib.hid hr
      clear hx hcell hr ha
      go_wp2
      clear hc1
      go_loopw [36] (fun i ws => ∃ t : Nat, t ≤ nb ∧ i = .int .i64 t ∧ ws.rowIs w.heap.size 22 N (ku .u32 fun j => if k ≤ j ∧ j < k + t then pS a b (k + 1) j % m else pS a b k j % m) ∧ Below w.heap.size w ws ∧ w.heap.size < ws.heap.size) (fun i _ => nb - (intOf i).toNat)
      case atStart =>
        refine ⟨0, Nat.zero_le _, rfl, HR.out.congr fun j _ => ?_, hbel, hsz⟩
        simp only [ku]
        rw [if_neg (by omega)]
      case round =>
        clear HR hbel hsz
        obtain ⟨t, ht, rfl, hr, hbel, hsz⟩ := hrel
        by_cases htn : t < nb
        · obtain ⟨g2, off2, rfl, _, hg2, hcell2⟩ := hb.2 (by omega)
          have hc1 := (hbel.cell (p := ⟨g2, off2 + t, none⟩) (show g2 < w.heap.size by omega)).trans (hcell2 t htn)
          obtain ⟨y, hy⟩ : ∃ y, b t = y := ⟨_, rfl⟩
          have hym := hbb t
          rw [hy] at hc1 hym
          have hN0 := HN.out
          have hc2 := hr.cell (show k + t < N by omega)
          simp only [ku] at hc2
          rw [if_neg (show ¬(k ≤ k + t ∧ k + t < k + t) by omega)] at hc2
          obtain ⟨z, hz⟩ : ∃ z, pS a b k (k + t) % m = z := ⟨_, rfl⟩
          have hzm : pS a b k (k + t) % m < m := Nat.mod_lt _ hm
          rw [hz] at hc2 hzm
          have hf2 := hr.frozen (k + t)
          have hxy2 := mul_lt_int hxm hym hm2
          have hxy3 : 0 ≤ (x : Int) * (y : Int) := Int.mul_nonneg (Int.natCast_nonneg _) (Int.natCast_nonneg _)
          have hd1 : 0 ≤ ((z : Int) + (x : Int) * (y : Int)) % (m : Int) := Int.emod_nonneg _ (by omega)
          have hd2 : ((z : Int) + (x : Int) * (y : Int)) % (m : Int) < (m : Int) := Int.emod_lt_of_pos _ (by omega)
          have hNk : k + t < N := by omega
          have HY := Lib.hid hy
          have HZ := Lib.hid hz
          have HR := Lib.hid hr
          clear hy hz hcell2 hb hr hN0
          go_wp2
          go_roundw
          case rel =>
            refine ⟨t + 1, by omega, by go_num, ?_, hbel.setCell (Nat.le_refl _) _, by simpa using hsz⟩
            have e1 : ((z : Int) + (x : Int) * (y : Int)) % (m : Int) = (((z + x * y) % m : Nat) : Int) := by simp
            rw [e1]
            refine (rowIs_set_ku HR.out (k + t) ((z + x * y) % m)).congr fun j _ => ?_
            simp only [ku]
            congr 2
            by_cases h1 : j = k + t
            · subst h1
              rw [if_pos rfl, if_pos (by omega), pS_succ_hit (Nat.le_add_right k t), Nat.add_sub_cancel_left, HX.out, HY.out, ← HZ.out, Nat.mod_add_mod]
            · rw [if_neg h1]
              by_cases h2 : k ≤ j ∧ j < k + t
              · rw [if_pos h2, if_pos (by omega)]
              · rw [if_neg h2, if_neg (by omega)]
          case measure => simp [intOf]; omega
        · have hrow : wr.rowIs w.heap.size 22 N (ku .u32 fun j => pS a b (k + 1) j % m) := by
            refine hr.congr fun j _ => ?_
            simp only [ku]
            congr 2
            split
            · rfl
            · rw [pS_succ_miss]
              rcases Nat.lt_or_ge j k with h | h
              · exact .inl h
              · exact .inr (hb.1 _ (by omega))
          have HR := Lib.hid hrow
          clear hr hrow hb
          go_wp2
          go_roundw
          case rel => exact ⟨k + 1, by omega, by go_num, HR.out, hbel, hsz⟩
          case measure => simp [intOf]; omega
    · obtain rfl : k = n := by omega
      have hN0 := HN.out
      have hsq : Sq .u32 wr w.heap.size wr.heap.size (some ⟨w.heap.size, 0, none⟩) N (mulF m a b) := by
        refine Sq.of_row hr (Nat.le_refl _) (Nat.le_refl _) hsz (fun j hj => mulF_ext ha.1 hb.1 j (by omega)) fun j hj => ?_
        unfold mulF
        rw [pS_full ha.1]
      have HS := Lib.hid hsq
      have hT : tl (mulF m a b) N = tl (mulF m a b) (k + nb) := tl_ext (fun j hj => mulF_ext ha.1 hb.1 j (by omega)) (fun j hj => mulF_ext ha.1 hb.1 j (by omega))
      have HT := Lib.hid hT
      have HE := Lib.hid (fun j (hj : k + nb ≤ j + 1) => mulF_ext (m := m) ha.1 hb.1 j hj)
      clear hsq hr ha hb haa hbb hT hN0
      go_wp2_with (go_at_call 56; refine (trim_any _ _ _ _ _ _ _ HS.out (Nat.le_refl _) (by omega)).mono ?_; rintro e w' ⟨rfl, rfl⟩)
      go_ret
      have hT2 := tl_le (mulF m a b) N
      exact ⟨_, _, ret_slice HT.out, by have := HT.out; omega, sq_n (sq_tl HS.out) HT.out, hbel⟩
end Go.Proofs.Ytmidpholmgmdpaa
