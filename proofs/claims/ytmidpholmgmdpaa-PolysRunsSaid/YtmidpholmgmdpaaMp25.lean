/- Maps of whole numbers in memory, and the maker of a plan in memory: what they hold, and what is kept. -/
/- The contract of the maker's step. -/
/- The contract of the maker's power. -/
import Derived.Test.YtmidpholmgmdpaaC25
import Derived.Maps.RangeWalk
import Derived.Maps.OwnOps
import Derived.Deep.AppendLies
import Derived.Deep.RegionHeld3
namespace Go.Proofs.Ytmidpholmgmdpaa
open Go.RowKit
open Go.Maps (Keyed)
set_option linter.unusedVariables false

theorem wf64 {x : Int} (h1 : -9223372036854775808 ≤ x) (h2 : x ≤ 9223372036854775807) : (Lit.int .i64 x).wf = true := by
  have a : decide (IntKind.i64.min ≤ x) = true := decide_eq_true h1
  have b : decide (x ≤ IntKind.i64.max) = true := decide_eq_true h2
  show (decide (IntKind.i64.min ≤ x) && decide (x ≤ IntKind.i64.max)) = true
  rw [a, b]
  rfl
theorem keyI : Keyed Try.prog 3 := Go.Maps.int_keyed (q := .i64) Try.underlying3
theorem keyI_mk {x : Int} (h : (Lit.int .i64 x).wf = true) : keyOf Try.prog 3 (.int .i64 x) = some (.int .i64 x) := Go.Maps.keyOf_int_mk Try.underlying3 h
/-- block b is a map of N entries: at the number x stands f x -/
def IMap (w : World) (e b N : Nat) (f : Nat → Option Int) : Prop :=
  ∃ D : DataW Nat, w.ownsMap Try.prog 3 (plainElem Try.prog e) b N D ∧ Maps.size D = N ∧
    ∀ x : Int, (0 ≤ x → Maps.has D (.int .i64 x) = (f x.toNat).isSome ∧ ∀ c, f x.toNat = some c → ∀ z, D.atKey (.int .i64 x) z = .lit (.int .i64 c)) ∧ (x < 0 → Maps.has D (.int .i64 x) = false)
theorem IMap.block {w w' : World} {e b N : Nat} {f : Nat → Option Int} (h : IMap w e b N f) (hb : w'.heap[b]? = w.heap[b]?) : IMap w' e b N f := by
  obtain ⟨D, ⟨es, clock, h1, h2⟩, h3⟩ := h
  exact ⟨D, ⟨es, clock, hb.trans h1, h2⟩, h3⟩
theorem IMap.lt {w : World} {e b N : Nat} {f : Nat → Option Int} (h : IMap w e b N f) : b < w.heap.size := by
  obtain ⟨D, h1, _⟩ := h
  exact h1.lt
theorem IMap.made (w : World) (e : Nat) : IMap (w.alloc (.map #[] 0)) e w.heap.size 0 (fun _ => none) :=
  ⟨.map [], World.ownsMap_made w _ _ _, rfl, fun x => ⟨fun _ => ⟨rfl, fun c h => by cases h⟩, fun _ => rfl⟩⟩
/-- what a store leaves -/
theorem IMap.put {w w' : World} {e b N x : Nat} {c : Int} {f : Nat → Option Int} {D : DataW Nat} (hD : w.ownsMap Try.prog 3 (plainElem Try.prog e) b N D) (hN : Maps.size D = N)
    (hf : ∀ x : Int, (0 ≤ x → Maps.has D (.int .i64 x) = (f x.toNat).isSome ∧ ∀ c, f x.toNat = some c → ∀ z, D.atKey (.int .i64 x) z = .lit (.int .i64 c)) ∧ (x < 0 → Maps.has D (.int .i64 x) = false))
    (h : w'.ownsMap Try.prog 3 (plainElem Try.prog e) b (N + 1) (D.put (.int .i64 (x : Int)) (.lit (.int .i64 c)))) : ∃ N', IMap w' e b N' (fun y => if y = x then some c else f y) ∧ N' ≤ N + 1 := by
  have hm := hD.isMap
  have hk : WideAt.IsKeyLit (Lit.int .i64 (x : Int)) := trivial
  refine ⟨Maps.size (D.put (.int .i64 (x : Int)) (.lit (.int .i64 c))), ⟨D.put (.int .i64 (x : Int)) (.lit (.int .i64 c)), ?_, rfl, fun y => ⟨fun hy => ?_, fun hy => ?_⟩⟩, ?_⟩
  · obtain ⟨es, clock, h1, h2, h3, h4⟩ := h
    refine ⟨es, clock, h1, h2, ?_, h4⟩
    rw [h4]
    show es.size ≤ ((es.toList.map _).foldr DataW.insert []).length
    rw [length_sorted]
    simp
  · by_cases hyx : y = (x : Int)
    · subst hyx
      simp only [Int.toNat_natCast]
      refine ⟨by rw [Maps.has_put_same hm hk]; simp, fun c' hc z => ?_⟩
      rw [if_pos trivial] at hc
      injection hc with hc
      subst hc
      exact Maps.atKey_put_same hm hk _ z
    · have hne : (Lit.int IntKind.i64 y) ≠ Lit.int .i64 (x : Int) := fun h2 => hyx (by injection h2)
      have hyx2 : ¬ y.toNat = x := by omega
      simp only [if_neg hyx2]
      refine ⟨(Maps.has_put_other hne _).trans ((hf y).1 hy).1, fun c' hc z => ?_⟩
      rw [Maps.atKey_put_other hne]
      exact ((hf y).1 hy).2 c' hc z
  · have hne : (Lit.int IntKind.i64 y) ≠ Lit.int .i64 (x : Int) := fun h2 => by injection h2; omega
    exact (Maps.has_put_other hne _).trans ((hf y).2 hy)
  · rw [Maps.size_put (hD.tidy keyI)]
    split <;> omega
/-- of a map of one entry -/
theorem IMap.one {w : World} {e b : Nat} {f : Nat → Option Int} (h : IMap w e b 1 f) {x y : Nat} (hx : f x ≠ none) (hy : f y ≠ none) : x = y := by
  obtain ⟨D, h1, h2, h3⟩ := h
  obtain ⟨es, rfl, _⟩ := h1.tidy keyI
  have hl : es.length = 1 := h2
  obtain ⟨p, rfl⟩ := List.length_eq_one_iff.1 hl
  have a1 := ((h3 x).1 (by omega)).1
  have a2 := ((h3 y).1 (by omega)).1
  simp only [Int.toNat_natCast, Maps.has_eq, List.any_cons, List.any_nil, Bool.or_false] at a1 a2
  rw [Option.isSome_iff_ne_none.2 hx] at a1
  rw [Option.isSome_iff_ne_none.2 hy] at a2
  have b1 := WideAt.sameKey_eq a1
  have b2 := WideAt.sameKey_eq a2
  rw [b1] at b2
  injection b2 with _ b2
  omega

/-- the state of a maker: the steps, and the registers of the powers -/
structure MSt where
  n : Nat
  s : Nat → PS
  f : Nat → Option Int
  N : Nat
def PB (w : World) (b g : Nat) : Prop := ∃ o n c, w.cell? ⟨b, 1, none⟩ = some (.slice (some ⟨g, o, none⟩) n c)
/-- a block that the maker does not write -/
def Out (w : World) (b M g : Nat) : Prop := g < w.heap.size ∧ g ≠ b ∧ g ≠ M ∧ ¬ PB w b g
/-- what the maker does not write stays -/
structure Kp (b M : Nat) (w w' : World) : Prop where
  os : w'.os = w.os
  tape : w'.tape = w.tape
  output : w'.output = w.output
  size : w.heap.size ≤ w'.heap.size
  block : ∀ g, Out w b M g → w'.heap[g]? = w.heap[g]? ∧ ¬ PB w' b g
theorem Kp.out {b M : Nat} {w w' : World} (h : Kp b M w w') {g : Nat} (hg : Out w b M g) : Out w' b M g := ⟨Nat.lt_of_lt_of_le hg.1 h.size, hg.2.1, hg.2.2.1, (h.block g hg).2⟩
theorem Kp.refl (b M : Nat) (w : World) : Kp b M w w := ⟨rfl, rfl, rfl, Nat.le_refl _, fun g hg => ⟨rfl, hg.2.2.2⟩⟩
theorem Kp.trans {b M : Nat} {w w1 w2 : World} (h : Kp b M w w1) (k : Kp b M w1 w2) : Kp b M w w2 :=
  ⟨k.os.trans h.os, k.tape.trans h.tape, k.output.trans h.output, Nat.le_trans h.size k.size, fun g hg => ⟨(k.block g (h.out hg)).1.trans (h.block g hg).1, (k.block g (h.out hg)).2⟩⟩
theorem PB.of_block {w w' : World} {b g : Nat} (h : w'.heap[b]? = w.heap[b]?) : PB w' b g ↔ PB w b g := by
  unfold PB
  rw [World.cell?_of_block (w := w) (w' := w') (a := ⟨b, 1, none⟩) h]
/-- only blocks that are new, or that the maker writes not -/
theorem Kp.of_below {b M : Nat} {w w' : World} (h : Below w.heap.size w w') (hb : b < w.heap.size) : Kp b M w w' :=
  ⟨h.os, h.tape, h.output, h.size, fun g hg => ⟨h.block g hg.1, fun hp => hg.2.2.2 ((PB.of_block (h.block b hb)).1 hp)⟩⟩
theorem Kp.grown {b M q : Nat} {w w1 w2 : World} (h : Kp b M w w1) (hg : w1.grownBy w2 (some q)) (hq : w.heap.size ≤ q) (hb : b < w.heap.size) : Kp b M w w2 :=
  ⟨hg.os.trans h.os, hg.tape.trans h.tape, hg.output.trans h.output, Nat.le_trans h.size hg.size, fun g ho => by
    have hz := h.size
    have hgl := ho.1
    exact ⟨(hg.block g (by omega) (fun e => by injection e; omega)).trans (h.block g ho).1, fun hp => (h.block g ho).2 ((PB.of_block (hg.block b (by omega) (fun e => by injection e; omega))).1 hp)⟩⟩
theorem grown_set (w : World) (a : Addr) (v : Value) : w.grownBy (w.setCell a v) (some a.block) :=
  ⟨rfl, rfl, rfl, by simp [World.setCell], fun k hk hne => Below.heap_setCell _ _ _ _ (fun e => hne (by rw [e]))⟩
theorem Kp.setCell {b M q o : Nat} {w w1 : World} {v : Value} (h : Kp b M w w1) (hq : w.heap.size ≤ q) (hb : b < w.heap.size) : Kp b M w (w1.setCell ⟨q, o, none⟩ v) :=
  h.grown (grown_set w1 ⟨q, o, none⟩ v) hq hb
theorem Kp.cell {b M : Nat} {w w' : World} (h : Kp b M w w') {p : Addr} (hg : Out w b M p.block) : w'.cell? p = w.cell? p := World.cell?_of_block (h.block p.block hg).1
theorem Kp.frozen {b M : Nat} {w w' : World} (h : Kp b M w w') {p : Addr} (hg : Out w b M p.block) : w'.frozen? p = w.frozen? p := World.frozen?_of_block (h.block p.block hg).1

/-- a step's cells -/
def stpL (S : PS) (C : Option Addr) (c : Nat) : List Value := [.bool S.mul, .int .i64 S.a, .int .i64 S.b, .int .i64 S.first, .slice C S.n c]
def plnL (s : Nat → PS) (C : Nat → Option Addr) (c : Nat → Nat) : Nat → List Value
  | 0 => []
  | n + 1 => plnL s C c n ++ stpL (s n) (C n) (c n)
/-- a step's constants in memory -/
def CsAt (w : World) (b M : Nat) (C : Option Addr) (S : PS) : Prop :=
  S.n ≤ 1000000 ∧ (∀ j, S.n ≤ j → S.cs j = 0) ∧ (0 < S.n → ∃ g cur fr, C = some ⟨g, 0, none⟩ ∧ w.heap[g]? = some (.cells cur 2 fr) ∧ Out w b M g ∧ ∀ j, j < S.n → cur[j]? = some (.int .i64 (S.cs j)))
/-- the maker in memory -/
def MK (w : World) (t b M : Nat) (σ : MSt) : Prop :=
  ∃ (A : Option Addr) (c : Nat) (C : Nat → Option Addr) (cc : Nat → Nat) (N : Nat), w.heap[b]? = some (.cells #[.int .u32 (t : Int), .slice A σ.n c, .map (some M)] 59 (0, 0)) ∧
    w.ownsRow (b + 1) 37 5 (.slice A σ.n c) σ.n (plnL σ.s C cc σ.n) ∧ (∀ i, i < σ.n → CsAt w b M (C i) (σ.s i)) ∧ IMap w 3 M N σ.f ∧ N ≤ σ.N ∧ M < b
theorem MK.lt {w : World} {t b M : Nat} {σ : MSt} (h : MK w t b M σ) : b < w.heap.size ∧ M < b := by
  obtain ⟨A, c, C, cc, N, h1, _, _, _, _, h2⟩ := h
  exact ⟨(Array.getElem?_eq_some_iff.1 h1).1, h2⟩
theorem CsAt.block {w w' : World} {b M : Nat} {C : Option Addr} {S : PS} (h : CsAt w b M C S) (hk : ∀ g cur fr, w.heap[g]? = some (.cells cur 2 fr) → Out w b M g → w'.heap[g]? = w.heap[g]? ∧ Out w' b M g) : CsAt w' b M C S := by
  refine ⟨h.1, h.2.1, fun hn => ?_⟩
  obtain ⟨g, cur, fr, h1, h2, h3, h4⟩ := h.2.2 hn
  obtain ⟨k1, k2⟩ := hk g cur fr h2 h3
  exact ⟨g, cur, fr, h1, k1.trans h2, k2, h4⟩
theorem ownsRow_block {w w' : World} {base e size n : Nat} {v : Value} {xs : List Value} (h : w.ownsRow base e size v n xs) (hk : ∀ g o k c, base ≤ g → v = .slice (some ⟨g, o, none⟩) k c → w'.heap[g]? = w.heap[g]?) : w'.ownsRow base e size v n xs := by
  refine ⟨h.1, ?_⟩
  rcases h.2 with h1 | ⟨g, cap, cur, hv, hb, hh, hr⟩
  · exact .inl h1
  · exact .inr ⟨g, cap, cur, hv, hb, (hk g 0 n cap hb hv).trans hh, hr⟩
/-- the maker stays while blocks that are not its own are written -/
theorem MK.keep {w w' : World} {t b M : Nat} {σ : MSt} (h : MK w t b M σ) (hsz : w.heap.size ≤ w'.heap.size)
    (hk : ∀ g, g < w.heap.size → (g = b ∨ g = M ∨ PB w b g ∨ ∃ cur fr, w.heap[g]? = some (.cells cur 2 fr) ∧ Out w b M g) → w'.heap[g]? = w.heap[g]?) : MK w' t b M σ := by
  obtain ⟨hbl, hMb⟩ := h.lt
  obtain ⟨A, c, C, cc, N, h1, h2, h3, h4, h5, h6⟩ := h
  have hb := hk b hbl (.inl rfl)
  refine ⟨A, c, C, cc, N, hb.trans h1, ownsRow_block h2 (fun g o k c' hg hv => ?_), fun i hi => (h3 i hi).block fun g cur fr hg ho => ?_, h4.block (hk M (by omega) (.inr (.inl rfl))), h5, h6⟩
  · injection hv with e1 e2 e3
    subst e1
    have hgl : g < w.heap.size := by
      rcases h2.2 with ⟨hv, _⟩ | ⟨g', cap, cur, hv, _, hh, _⟩
      · cases hv
      · injection hv with hv
        injection hv with hv
        injection hv with hv
        subst hv
        exact (Array.getElem?_eq_some_iff.1 hh).1
    exact hk g hgl (.inr (.inr (.inl ⟨o, σ.n, c, by rw [Go.cell_of_row w b 1 _ _ _ h1]; rfl⟩)))
  · exact ⟨hk g ho.1 (.inr (.inr (.inr ⟨cur, fr, hg, ho⟩))), Nat.lt_of_lt_of_le ho.1 hsz, ho.2.1, ho.2.2.1, fun hp => ho.2.2.2 ((PB.of_block hb).1 hp)⟩
theorem MK.below {w w' : World} {t b M : Nat} {σ : MSt} (h : MK w t b M σ) (hb : Below w.heap.size w w') : MK w' t b M σ := h.keep hb.size fun g hg _ => hb.block g hg
/-- .. while a block of another kind is written -/
theorem MK.grown {w w' : World} {t b M q : Nat} {σ : MSt} (h : MK w t b M σ) (hg : w.grownBy w' (some q)) (hq : Out w b M q) (hne : ∀ cur fr, w.heap[q]? ≠ some (.cells cur 2 fr)) : MK w' t b M σ :=
  h.keep hg.size fun g hgl hcase => hg.block g hgl fun e => by
    injection e with e
    subst e
    rcases hcase with h1 | h1 | h1 | ⟨cur, fr, h1, _⟩
    · exact hq.2.1 h1
    · exact hq.2.2.1 h1
    · exact hq.2.2.2 h1
    · exact hne cur fr h1
/-- a new block is none of the maker's -/
theorem MK.new {w w' : World} {t b M : Nat} {σ : MSt} (h : MK w t b M σ) (hb : Below w.heap.size w w') {g : Nat} (hg : w.heap.size ≤ g) (hg2 : g < w'.heap.size) : Out w' b M g := by
  obtain ⟨hbl, hMb⟩ := h.lt
  refine ⟨hg2, by omega, by omega, fun hp => ?_⟩
  obtain ⟨o, n, c, hc⟩ := (PB.of_block (hb.block b hbl)).1 hp
  obtain ⟨A, c', C, cc, N, h1, h2, _⟩ := h
  rw [Go.cell_of_row w b 1 _ _ _ h1] at hc
  simp only [List.getElem?_toArray, List.getElem?_cons_succ, List.getElem?_cons_zero, Option.some.injEq, Value.slice.injEq] at hc
  obtain ⟨rfl, _, _⟩ := hc
  rcases h2.2 with ⟨hv, _⟩ | ⟨g', cap, cur, hv, _, hh, _⟩
  · cases hv
  · injection hv with hv
    injection hv with hv
    injection hv with hv
    subst hv
    have := (Array.getElem?_eq_some_iff.1 hh).1
    omega
end Go.Proofs.Ytmidpholmgmdpaa

namespace Go.Proofs.Ytmidpholmgmdpaa
open Go.RowKit
set_option linter.unusedVariables false

def MSt.push (σ : MSt) (S : PS) : MSt := ⟨σ.n + 1, fun j => if j = σ.n then S else σ.s j, σ.f, σ.N⟩
/-- what a method of the maker leaves: a register, and the maker in another state -/
def RetMk (w : World) (t b M : Nat) (R : MSt → Int → Prop) (e : Ending) (w' : World) : Prop := ∃ σ' r, R σ' r ∧ e = .returned (.int .i64 r) ∧ MK w' t b M σ' ∧ Kp b M w w'

theorem infoS : (Try.prog.info? 37).map (fun i => (i.zero, i.size, i.bytes)) = some (some (.agg #[.bool false, .int .i64 0, .int .i64 0, .int .i64 0, .slice none 0 0]), 5, 56) := by kernel_rfl

theorem plnL_len (s : Nat → PS) (C : Nat → Option Addr) (c : Nat → Nat) (n : Nat) : (plnL s C c n).length = n * 5 := by
  induction n with
  | zero => rfl
  | succ n ih =>
    unfold plnL
    rw [List.length_append, ih]
    show n * 5 + 5 = (n + 1) * 5
    omega
theorem plnL_congr {s s' : Nat → PS} {C C' : Nat → Option Addr} {c c' : Nat → Nat} (n : Nat) (h : ∀ j, j < n → s j = s' j ∧ C j = C' j ∧ c j = c' j) : plnL s C c n = plnL s' C' c' n := by
  induction n with
  | zero => rfl
  | succ n ih =>
    unfold plnL
    obtain ⟨h1, h2, h3⟩ := h n (by omega)
    rw [ih fun j hj => h j (by omega), h1, h2, h3]
def upd {α : Type} (f : Nat → α) (n : Nat) (x : α) : Nat → α := fun j => if j = n then x else f j
theorem upd_same {α : Type} (f : Nat → α) (n : Nat) (x : α) : upd f n x n = x := if_pos rfl
theorem upd_other {α : Type} (f : Nat → α) {n j : Nat} (x : α) (h : j ≠ n) : upd f n x j = f j := if_neg h
/-- what the append and the store leave of the maker -/
theorem mk_push {w w5 : World} {t b M gg cap : Nat} {σ : MSt} {S : PS} {C : Option Addr} {c c0 N : Nat} {A : Option Addr} {Cs : Nat → Option Addr} {cc : Nat → Nat} {o1 o2 : Obj}
    (h1 : w.heap[b]? = some (.cells #[.int .u32 (t : Int), .slice A σ.n c0, .map (some M)] 59 (0, 0)))
    (h2 : w.ownsRow (b + 1) 37 5 (.slice A σ.n c0) σ.n (plnL σ.s Cs cc σ.n)) (h3 : ∀ i, i < σ.n → CsAt w b M (Cs i) (σ.s i)) (h4 : IMap w 3 M N σ.f) (h5 : N ≤ σ.N) (h6 : M < b) (hC : CsAt w b M C S)
    (hown : w5.ownsRow (b + 1) 37 5 (.slice (some ⟨gg, 0, none⟩) (σ.n + 1) cap) (σ.n + 1) (plnL σ.s Cs cc σ.n ++ stpL S C c))
    (hg : (((w.alloc o1).alloc o2).drew).grownBy w5 (Value.slice A σ.n c0).ownBlock) (hat : (Value.slice A σ.n c0).ownBlock = some gg ∨ gg = w.heap.size + 1 + 1) :
    MK (w5.setCell ⟨b, 1, none⟩ (.slice (some ⟨gg, 0, none⟩) (σ.n + 1) cap)) t b M (σ.push S) ∧ Kp b M w (w5.setCell ⟨b, 1, none⟩ (.slice (some ⟨gg, 0, none⟩) (σ.n + 1) cap)) := by
  have hbl : b < w.heap.size := (Array.getElem?_eq_some_iff.1 h1).1
  have hob : ∀ g, (Value.slice A σ.n c0).ownBlock = some g → b + 1 ≤ g ∧ g < w.heap.size ∧ PB w b g := fun g hgo => by
    rcases h2.2 with ⟨hv, _⟩ | ⟨g', cp, cur, hv, hg', hh, _⟩
    · rw [hv] at hgo; cases hgo
    · injection hv with e1 e2 e3
      subst e1
      injection hgo with e
      subst e
      exact ⟨hg', (Array.getElem?_eq_some_iff.1 hh).1, 0, σ.n, c0, by rw [Go.cell_of_row w b 1 _ _ _ h1]; rfl⟩
  have hW : ∀ g, g < w.heap.size → (((w.alloc o1).alloc o2).drew).heap[g]? = w.heap[g]? := fun g hg => (Below.heap_alloc _ _ g (by rw [World.size_alloc]; omega)).trans (Below.heap_alloc _ _ g hg)
  have hWs : (((w.alloc o1).alloc o2).drew).heap.size = w.heap.size + 1 + 1 := by show ((w.alloc o1).alloc o2).heap.size = _; rw [World.size_alloc, World.size_alloc]
  have k5 : ∀ g, g < w.heap.size → (Value.slice A σ.n c0).ownBlock ≠ some g → w5.heap[g]? = w.heap[g]? := fun g hgl hne => (hg.block g (by rw [hWs]; omega) fun e => hne e.symm).trans (hW g hgl)
  have hsz := hg.size
  rw [hWs] at hsz
  have hgb : gg ≠ b := by
    rcases hat with h | h
    · have := hob gg h; omega
    · omega
  have hgM : gg ≠ M := by
    rcases hat with h | h
    · have := hob gg h; omega
    · omega
  have hob_b : (Value.slice A σ.n c0).ownBlock ≠ some b := fun h => by have := (hob b h).1; omega
  have hob_M : (Value.slice A σ.n c0).ownBlock ≠ some M := fun h => by have := (hob M h).1; omega
  have s1 : (w5.setCell ⟨b, 1, none⟩ (.slice (some ⟨gg, 0, none⟩) (σ.n + 1) cap)).heap[b]? = some (.cells #[.int .u32 (t : Int), .slice (some ⟨gg, 0, none⟩) (σ.n + 1) cap, .map (some M)] 59 (0, 0)) :=
    Go.heap_setCell_same w5 b 1 _ _ _ ((k5 b hbl hob_b).trans h1)
  have s2 : ∀ g, g ≠ b → (w5.setCell ⟨b, 1, none⟩ (.slice (some ⟨gg, 0, none⟩) (σ.n + 1) cap)).heap[g]? = w5.heap[g]? := fun g hg => Below.heap_setCell _ _ _ _ hg
  have hout : ∀ g, Out w b M g → (w5.setCell ⟨b, 1, none⟩ (.slice (some ⟨gg, 0, none⟩) (σ.n + 1) cap)).heap[g]? = w.heap[g]? ∧ ¬ PB (w5.setCell ⟨b, 1, none⟩ (.slice (some ⟨gg, 0, none⟩) (σ.n + 1) cap)) b g := fun g ho => by
    refine ⟨(s2 g ho.2.1).trans (k5 g ho.1 fun h => ho.2.2.2 (hob g h).2.2), fun hp => ?_⟩
    obtain ⟨o, n, c', hc⟩ := hp
    rw [Go.cell_of_row _ b 1 _ _ _ s1] at hc
    simp only [List.getElem?_toArray, List.getElem?_cons_succ, List.getElem?_cons_zero, Option.some.injEq, Value.slice.injEq, Addr.mk.injEq] at hc
    obtain ⟨⟨rfl, _⟩, _⟩ := hc
    rcases hat with h | h
    · exact ho.2.2.2 (hob gg h).2.2
    · have := ho.1; omega
  have hz : w5.heap.size ≤ (w5.setCell ⟨b, 1, none⟩ (.slice (some ⟨gg, 0, none⟩) (σ.n + 1) cap)).heap.size := by simp [World.setCell]
  have hcs : ∀ (C : Option Addr) (S : PS), CsAt w b M C S → CsAt (w5.setCell ⟨b, 1, none⟩ (.slice (some ⟨gg, 0, none⟩) (σ.n + 1) cap)) b M C S := fun C S h => h.block fun g cur fr _ ho =>
    ⟨(hout g ho).1, Nat.lt_of_lt_of_le ho.1 (by omega), ho.2.1, ho.2.2.1, (hout g ho).2⟩
  refine ⟨⟨some ⟨gg, 0, none⟩, cap, upd Cs σ.n C, upd cc σ.n c, N, s1, ?_, fun i hi => ?_, h4.block ((s2 M (by omega)).trans (k5 M (by omega) hob_M)), h5, h6⟩, ?_⟩
  · have := ownsRow_block (w' := w5.setCell ⟨b, 1, none⟩ (.slice (some ⟨gg, 0, none⟩) (σ.n + 1) cap)) hown fun g o k c' hg hv => by
      injection hv with e1
      injection e1 with e1
      injection e1 with e1
      subst e1
      exact s2 gg hgb
    have e : plnL (σ.push S).s (upd Cs σ.n C) (upd cc σ.n c) (σ.push S).n = plnL σ.s Cs cc σ.n ++ stpL S C c := by
      show plnL _ _ _ σ.n ++ stpL ((σ.push S).s σ.n) (upd Cs σ.n C σ.n) (upd cc σ.n c σ.n) = _
      rw [upd_same, upd_same, show (σ.push S).s σ.n = S from if_pos rfl]
      congr 1
      exact plnL_congr σ.n fun j hj => ⟨if_neg (by omega), upd_other _ _ (by omega), upd_other _ _ (by omega)⟩
    rw [e]
    exact this
  · by_cases hin : i = σ.n
    · subst hin
      rw [upd_same, show (σ.push S).s σ.n = S from if_pos rfl]
      exact hcs _ _ hC
    · have hi2 : i < σ.n + 1 := hi
      rw [upd_other _ _ hin, show (σ.push S).s i = σ.s i from if_neg hin]
      exact hcs _ _ (h3 i (by omega))
  · exact ⟨hg.os, hg.tape, hg.output, by omega, hout⟩

set_option maxRecDepth 100000 in
set_option maxHeartbeats 4000000 in
theorem mstep_any (t b M : Nat) (σ : MSt) (S : PS) (C : Option Addr) (c : Nat) (w : World) (h : MK w t b M σ) (hC : CsAt w b M C S) (hn : σ.n ≤ 1000000) :
    Calls Try.prog 44 #[.pointer (some ⟨b, 0, none⟩), .agg #[.bool S.mul, .int .i64 S.a, .int .i64 S.b, .int .i64 S.first, .slice C S.n c]] w (RetMk w t b M fun σ' r => σ' = σ.push S ∧ r = (σ.n : Int) + 1) := by
  obtain ⟨A, c0, Cs, cc, N, h1, h2, h3, h4, h5, h6⟩ := h
  go_enter Try.func44, Try.ntmps44
  go_wp2
  have hbl : b < w.heap.size := (Array.getElem?_eq_some_iff.1 h1).1
  have kb : w.cell? ⟨b, 1, none⟩ = some (.slice A σ.n c0) := by rw [Go.cell_of_row w b 1 _ _ _ h1]; rfl
  have kf : w.frozen? ⟨b, 1, none⟩ = false := by rw [World.frozen?, h1]; rfl
  have HOA := Lib.hid ((ownsRow_block (w' := (w.alloc (.cells #[.bool S.mul, .int .i64 S.a, .int .i64 S.b, .int .i64 S.first, .slice C S.n c] 37)).alloc (.cells #[.bool S.mul, .int .i64 S.a, .int .i64 S.b, .int .i64 S.first, .slice C S.n c] 37)) h2 fun g o k c' hg hv => by
    injection hv with e1 e2 e3
    subst e1
    have hgl : g < w.heap.size := by
      rcases h2.2 with ⟨hv, _⟩ | ⟨g', cap, cur, hv, _, hh, _⟩
      · cases hv
      · injection hv with hv
        injection hv with hv
        injection hv with hv
        subst hv
        exact (Array.getElem?_eq_some_iff.1 hh).1
    rw [Below.heap_alloc _ _ g (by rw [World.size_alloc]; omega), Below.heap_alloc _ _ g hgl]))
  have HNW : Hid (((w.alloc (.cells #[.bool S.mul, .int .i64 S.a, .int .i64 S.b, .int .i64 S.first, .slice C S.n c] 37)).alloc (.cells #[.bool S.mul, .int .i64 S.a, .int .i64 S.b, .int .i64 S.first, .slice C S.n c] 37)).heap[w.heap.size + 1]? = some (.cells #[.bool S.mul, .int .i64 S.a, .int .i64 S.b, .int .i64 S.first, .slice C S.n c] 37 (0, 0))) := Lib.hid (by
    have := heap_alloc_new (w.alloc (.cells #[.bool S.mul, .int .i64 S.a, .int .i64 S.b, .int .i64 S.first, .slice C S.n c] 37)) (.cells #[.bool S.mul, .int .i64 S.a, .int .i64 S.b, .int .i64 S.first, .slice C S.n c] 37 (0, 0))
    rw [World.size_alloc] at this
    exact this)
  have hob_b : (Value.slice A σ.n c0).ownBlock ≠ some b := fun hgo => by
    rcases h2.2 with ⟨hv, _⟩ | ⟨g', cp, cur, hv, hg', hh, _⟩
    · rw [hv] at hgo; cases hgo
    · injection hv with e1 e2 e3
      subst e1
      injection hgo with e
      have e : g' = b := e
      omega
  have hB5 : ∀ (o1 o2 : Obj) (w5 : World), (((w.alloc o1).alloc o2).drew).grownBy w5 (Value.slice A σ.n c0).ownBlock → w5.heap[b]? = w.heap[b]? := fun o1 o2 w5 hg =>
    (hg.block b (by show b < ((w.alloc o1).alloc o2).heap.size; rw [World.size_alloc, World.size_alloc]; omega) (fun e => hob_b e.symm)).trans ((Below.heap_alloc _ _ b (by rw [World.size_alloc]; omega)).trans (Below.heap_alloc _ _ b hbl))
  have HK5 : Hid (∀ (o1 o2 : Obj) (w5 : World), (((w.alloc o1).alloc o2).drew).grownBy w5 (Value.slice A σ.n c0).ownBlock → w5.cell? ⟨b, 1, none⟩ = some (.slice A σ.n c0)) := Lib.hid fun o1 o2 w5 hg => (World.cell?_of_block (w := w) (hB5 o1 o2 w5 hg)).trans kb
  have HF5 : Hid (∀ (o1 o2 : Obj) (w5 : World), (((w.alloc o1).alloc o2).drew).grownBy w5 (Value.slice A σ.n c0).ownBlock → w5.frozen? ⟨b, 1, none⟩ = false) := Lib.hid fun o1 o2 w5 hg => (World.frozen?_of_block (w := w) (hB5 o1 o2 w5 hg)).trans kf
  clear hB5 hob_b
  have HALL := Lib.hid (And.intro h1 (And.intro h2 (And.intro h3 (And.intro h4 (And.intro h5 (And.intro h6 hC))))))
  obtain ⟨i0, hi0, hz9⟩ := Option.map_eq_some_iff.1 infoS
  simp only [Prod.mk.injEq] at hz9
  obtain ⟨y1, y2, y3⟩ := hz9
  clear h1 h2 h3 h4 h5 h6 hC
  go_region_law (first
    | (refine step_append_lies _ (by rfl) _ _ _ (by rfl) (b + 1) 37 i0 _ 5 56 Try.underlying32 hi0 y1 y2 y3 (by rfl) (by decide) _ σ.n _ (by rfl) (HOA.out.drew) ⟨w.heap.size + 1, 0, none⟩ 1 1 [.bool S.mul, .int .i64 S.a, .int .i64 S.b, .int .i64 S.first, .slice C S.n c] (by rfl) (by rfl) (World.news_of_block (cs := #[.bool S.mul, .int .i64 S.a, .int .i64 S.b, .int .i64 S.first, .slice C S.n c]) (t := 37) (fr := (0, 0)) HNW.out) (by simp [Value.oneCell']) (by omega) (by unfold maxLen; omega) (by omega) (by simp; omega) (w.heap.size + 1 + 1) (by simp) ?_
       intro gg cap w5 hown5 hg5 hat5 hlt5
       have HM5 := Lib.hid (mk_push HALL.out.1 HALL.out.2.1 HALL.out.2.2.1 HALL.out.2.2.2.1 HALL.out.2.2.2.2.1 HALL.out.2.2.2.2.2.1 HALL.out.2.2.2.2.2.2 hown5 hg5 hat5)
       have c5 : w5.cell? ⟨b, 1, none⟩ = some (.slice A σ.n c0) := HK5.out _ _ w5 hg5
       have f5 : w5.frozen? ⟨b, 1, none⟩ = false := HF5.out _ _ w5 hg5
       clear hown5 hg5 hat5)
    | fail)
  all_goals
    go_wp2
    go_ret
    exact ⟨_, _, ⟨rfl, rfl⟩, rfl, HM5.out.1, HM5.out.2⟩
end Go.Proofs.Ytmidpholmgmdpaa

namespace Go.Proofs.Ytmidpholmgmdpaa
open Go.RowKit
open Go.Maps (Keyed)
set_option linter.unusedVariables false

theorem lit_inj {x y : Int} (h : (DataW.lit (.int .i64 x) : DataW Nat) = .lit (.int .i64 y)) : x = y := by
  injection h with h
  injection h with _ h
section laws
variable {w : World} {ops : Array Oper} {rest : List Oper} {o : Oper} {a : Act} {Q : Exit → Act → World → Prop}
/-- a map's element, and whether there is one -/
theorem wpl_look (hg : o.guard = none) (m x : Operand) (t e : TypeId) (hop : o.op = Op.lookup t m x true) (ht : Try.prog.underlying t = some (.map 3 e)) (he : Try.prog.underlying e = some (.int .i64)) (hz : (zeroValue e).run Try.prog w = .ok (.int .i64 0) w) (b N : Nat) (f : Nat → Option Int)
    (hm : a.eval m = .map (some b)) (h : IMap w e b N f) (k : Nat) (hx : a.eval x = .int .i64 (k : Int)) (hk : k ≤ 9223372036854775807)
    (hK : wpList Try.prog ops Q rest (a.put o.dst (.tuple #[.int .i64 ((f k).getD 0), .bool (f k).isSome])) w) : wpList Try.prog ops Q (o :: rest) a w := by
  obtain ⟨D, hD, hs, hf⟩ := h
  obtain ⟨h1, h2⟩ := (hf (k : Int)).1 (by omega)
  simp only [Int.toNat_natCast] at h1 h2
  refine wpList_lookup_own_ok_int w hg m x t hop 3 e .i64 keyI ht he hz b N D hm hD _ _ hx (keyI_mk (wf64 (by omega) (by omega))) fun c hat hwc => ?_
  have hc : c = (f k).getD 0 := by
    cases hfk : f k with
    | none =>
      rw [hfk] at h1
      rw [Maps.atKey_of_not_has h1] at hat
      exact (lit_inj hat).symm
    | some r =>
      rw [h2 r hfk] at hat
      exact (lit_inj hat).symm
  rw [h1, hc]
  exact hK
/-- a store into a map -/
theorem wpl_mput (hg : o.guard = none) (m x v : Operand) (t e : TypeId) (hop : o.op = Op.mapUpdate t m x v) (ht : Try.prog.underlying t = some (.map 3 e)) (he : Try.prog.underlying e = some (.int .i64)) (b N : Nat) (f : Nat → Option Int)
    (hm : a.eval m = .map (some b)) (h : IMap w e b N f) (hN : N ≤ 2000000) (k : Nat) (c : Int) (hx : a.eval x = .int .i64 (k : Int)) (hk : k ≤ 9223372036854775807) (hv : a.eval v = .int .i64 c) (hc1 : -9223372036854775808 ≤ c) (hc2 : c ≤ 9223372036854775807)
    (hK : ∀ w' N', IMap w' e b N' (upd f k (some c)) → N' ≤ N + 1 → w.grownBy w' (some b) → wpList Try.prog ops Q rest (a.put o.dst undef) w') : wpList Try.prog ops Q (o :: rest) a w := by
  obtain ⟨D, hD, hs, hf⟩ := h
  refine wpList_mapUpdate_own w hg m x v t hop 3 e keyI ht (plainElem Try.prog e) b N D hm hD (by unfold maxLen; omega) _ _ _ hx hv (keyI_mk (wf64 (by omega) (by omega))) _ [] (plainElem_int he (wf64 hc1 hc2)) fun w' hown hgr => ?_
  obtain ⟨N', h1, h2⟩ := IMap.put (x := k) (c := c) hD hs hf hown
  exact hK w' N' h1 h2 hgr
end laws

/-- a product as a step -/
def mulS (a b : Int) : PS := ⟨true, a, b, 0, 0, fun _ => 0⟩
def MSt.set (σ : MSt) (k : Nat) (r : Int) : MSt := ⟨σ.n, σ.s, upd σ.f k (some r), σ.N + 1⟩
/-- what power makes of a state -/
inductive PowR : MSt → Nat → MSt → Int → Prop
  | hit {σ : MSt} {k : Nat} {r : Int} (h : σ.f k = some r) : PowR σ k σ r
  | mk {σ σ1 σ2 : MSt} {k : Nat} {a b : Int} (h : σ.f k = none) (h1 : PowR σ ((k + 1) / 2) σ1 a) (h2 : PowR σ1 (k / 2) σ2 b) : PowR σ k ((σ2.push (mulS a b)).set k ((σ2.n : Int) + 1)) ((σ2.n : Int) + 1)
theorem PowR.facts {σ σ' : MSt} {k : Nat} {r : Int} (h : PowR σ k σ' r) (hk : 1 ≤ k) (h1 : σ.f 1 = some 0) : σ'.f 1 = some 0 ∧ σ'.n + 1 ≤ σ.n + k ∧ σ'.N + 1 ≤ σ.N + k ∧ σ.n ≤ σ'.n := by
  induction h with
  | hit h => exact ⟨h1, by omega, by omega, Nat.le_refl _⟩
  | @mk σ σ1 σ2 k a b h _ _ ih1 ih2 =>
    have hk1 : k ≠ 1 := fun e => by rw [e, h1] at h; cases h
    obtain ⟨a1, a2, a3, a4⟩ := ih1 (by omega) h1
    obtain ⟨b1, b2, b3, b4⟩ := ih2 (by omega) a1
    refine ⟨?_, ?_, ?_, ?_⟩
    · show upd σ2.f k _ 1 = some 0
      rw [upd_other _ _ (fun e => hk1 e.symm)]
      exact b1
    · show σ2.n + 1 + 1 ≤ σ.n + k
      omega
    · show σ2.N + 1 + 1 ≤ σ.N + k
      omega
    · show σ.n ≤ σ2.n + 1
      omega
theorem MK.map {w : World} {t b M : Nat} {σ : MSt} (h : MK w t b M σ) : ∃ N0, IMap w 3 M N0 σ.f ∧ N0 ≤ σ.N := by
  obtain ⟨A, c, C, cc, N, _, _, _, h1, h2, _⟩ := h
  exact ⟨N, h1, h2⟩
theorem MK.cells {w : World} {t b M : Nat} {σ : MSt} (h : MK w t b M σ) : w.cell? ⟨b, 2, none⟩ = some (.map (some M)) ∧ ∃ A c, w.cell? ⟨b, 1, none⟩ = some (.slice A σ.n c) := by
  obtain ⟨A, c, C, cc, N, h1, _⟩ := h
  exact ⟨by rw [Go.cell_of_row w b 2 _ _ _ h1]; rfl, A, c, by rw [Go.cell_of_row w b 1 _ _ _ h1]; rfl⟩
/-- what the store into the powers leaves of the maker -/
theorem mk_set {w w' : World} {t b M N0 N' k : Nat} {r : Int} {σ : MSt} (h : MK w t b M σ) (hN : N' ≤ N0 + 1) (hN0 : N0 ≤ σ.N) (hm : IMap w' 3 M N' (upd σ.f k (some r))) (hg : w.grownBy w' (some M)) : MK w' t b M (σ.set k r) ∧ Kp b M w w' := by
  obtain ⟨hbl, hMb⟩ := h.lt
  have hkp : Kp b M w w' := ⟨hg.os, hg.tape, hg.output, hg.size, fun g ho => ⟨hg.block g ho.1 (fun e => ho.2.2.1 (by injection e)), fun hp => ho.2.2.2 ((PB.of_block (hg.block b hbl (fun e => by injection e; omega))).1 hp)⟩⟩
  refine ⟨?_, hkp⟩
  obtain ⟨A, c, C, cc, N, h1, h2, h3, h4, h5, h6⟩ := h
  refine ⟨A, c, C, cc, N', (hg.block b hbl (fun e => by injection e; omega)).trans h1, ownsRow_block h2 (fun g o k2 c' hgb hv => ?_), fun i hi => (h3 i hi).block fun g cur fr hgg ho => ⟨(hkp.block g ho).1, hkp.out ho⟩, hm, by show N' ≤ σ.N + 1; omega, h6⟩
  have hgl : g < w.heap.size := by
    injection hv with e1 e2 e3
    subst e1
    rcases h2.2 with ⟨hv, _⟩ | ⟨g', cap, cur, hv, _, hh, _⟩
    · cases hv
    · injection hv with hv
      injection hv with hv
      injection hv with hv
      subst hv
      exact (Array.getElem?_eq_some_iff.1 hh).1
  exact hg.block g hgl (fun e => by injection e; omega)
theorem CsAt.nil {w : World} {b M : Nat} {S : PS} (h : S.n = 0) (h2 : ∀ j, S.cs j = 0) : CsAt w b M none S := ⟨by omega, fun j _ => h2 j, fun h3 => by omega⟩

set_option maxRecDepth 100000 in
set_option maxHeartbeats 4000000 in
theorem mpower_any (t b M : Nat) : ∀ (k : Nat) (σ : MSt) (w : World), MK w t b M σ → 1 ≤ k → k ≤ 1000 → σ.f 1 = some 0 → σ.n + k ≤ 1000000 → σ.N + k ≤ 1000000 →
    Calls Try.prog 42 #[.pointer (some ⟨b, 0, none⟩), .int .i64 (k : Int)] w (RetMk w t b M fun σ' r => PowR σ k σ' r) := by
  intro k
  induction k using Nat.strongRecOn with
  | _ k ih =>
  intro σ w h hk1 hk2 hf1 hn hN
  obtain ⟨N0, hmap, hN0⟩ := h.map
  obtain ⟨kb2, A, cA, kb1⟩ := h.cells
  have HM := Lib.hid hmap
  have H := Lib.hid h
  have HF1 := Lib.hid hf1
  clear hmap h hf1
  cases hfk : σ.f k with
  | some r =>
    have HP := Lib.hid (PowR.hit hfk)
    have HL : Hid ((σ.f k).getD 0 = r ∧ (σ.f k).isSome = true) := Lib.hid (by rw [hfk]; exact ⟨rfl, rfl⟩)
    clear hfk
    go_enter Try.func42, Try.ntmps42
    go_wp2_with (at_lookup; refine wpl_look rfl _ _ _ _ rfl Try.underlying57 Try.underlying3 (by kernel_rfl) M N0 σ.f rfl HM.out k rfl (by omega) ?_; rw [HL.out.1, HL.out.2])
    go_ret
    exact ⟨σ, r, HP.out, rfl, H.out, Kp.refl _ _ _⟩
  | none =>
    have HL : Hid ((σ.f k).getD 0 = 0 ∧ (σ.f k).isSome = false) := Lib.hid (by rw [hfk]; exact ⟨rfl, rfl⟩)
    have hkne : k ≠ 1 := fun e => by rw [e, HF1.out] at hfk; cases hfk
    have HFK := Lib.hid hfk
    obtain ⟨k1, hk1e⟩ : ∃ x, (k + 1) / 2 = x := ⟨_, rfl⟩
    obtain ⟨k2', hk2e⟩ : ∃ x, k / 2 = x := ⟨_, rfl⟩
    have q1 : ((k : Int) + 1) / 2 = (k1 : Int) := by omega
    have q2 : (k : Int) / 2 = (k2' : Int) := by omega
    have q3 : ((k : Int) + 1).tdiv 2 = (k1 : Int) := by rw [Int.tdiv_eq_ediv_of_nonneg (by omega)]; omega
    have q4 : (k : Int).tdiv 2 = (k2' : Int) := by rw [Int.tdiv_eq_ediv_of_nonneg (by omega)]; omega
    have b1 : k1 < k ∧ 1 ≤ k1 := by omega
    have b2 : k2' < k ∧ 1 ≤ k2' := by omega
    have b3 : k1 + k2' = k := by omega
    have HK := Lib.hid (And.intro hk1e hk2e)
    have IH1 := Lib.hid (ih k1 b1.1 σ w H.out b1.2 (by omega) HF1.out (by omega) (by omega))
    have IH2 := Lib.hid (ih k2' b2.1)
    clear hfk hk1e hk2e ih
    go_enter Try.func42, Try.ntmps42
    go_wp2_with (at_lookup; refine wpl_look rfl _ _ _ _ rfl Try.underlying57 Try.underlying3 (by kernel_rfl) M N0 σ.f rfl HM.out k rfl (by omega) ?_; rw [HL.out.1, HL.out.2])
    refine IH1.out.mono ?_
    rintro e w1 ⟨σ1, r1, hp1, rfl, hm1, hk1⟩
    have hfa := hp1.facts b1.2 HF1.out
    have HP1 := Lib.hid hp1
    have HK1 := Lib.hid hk1
    have IH2' := Lib.hid (IH2.out σ1 w1 hm1 b2.2 (by omega) hfa.1 (by omega) (by omega))
    have hfa2 := hfa.2
    have HF2 := Lib.hid hfa.1
    clear hp1 hm1 hk1 hfa
    go_wp2_with fail
    refine IH2'.out.mono ?_
    rintro e w2 ⟨σ2, r2, hp2, rfl, hm2, hk2⟩
    have hfb := hp2.facts b2.2 HF2.out
    have hfb2 := hfb.2
    have HP2 := Lib.hid hp2
    have HK2 := Lib.hid (HK1.out.trans hk2)
    have HST := Lib.hid (mstep_any t b M σ2 (mulS r1 r2) none 0 w2 hm2 (CsAt.nil rfl fun _ => rfl) (by omega))
    clear hp2 hm2 hk2 hfb
    go_wp2_with fail
    refine HST.out.mono ?_
    rintro e w3 ⟨σ3, r3, ⟨rfl, rfl⟩, rfl, hm3, hk3⟩
    have HM3 := Lib.hid hm3
    have HK3 := Lib.hid (HK2.out.trans hk3)
    obtain ⟨N3, hmap3, hN3⟩ := hm3.map
    have HMP3 := Lib.hid hmap3
    obtain ⟨kc2, A3, cA3, kc1⟩ := hm3.cells
    have hN3' : N3 ≤ σ2.N := hN3
    clear hm3 hk3 hmap3 hN3
    go_wp2_with (at_mapUpdate; refine wpl_mput rfl _ _ _ _ _ rfl Try.underlying57 Try.underlying3 M N3 _ rfl HMP3.out (by omega) k ((σ2.n : Int) + 1) rfl (by omega) rfl (by omega) (by omega) ?_; intro w4 N4 hmap4 hN4 hg4)
    have HS := Lib.hid (mk_set HM3.out hN4 hN3' hmap4 hg4)
    clear hmap4 hg4
    go_wp2
    go_ret
    exact ⟨_, _, PowR.mk HFK.out (by rw [HK.out.1]; exact HP1.out) (by rw [HK.out.2]; exact HP2.out), rfl, HS.out.1, HK3.out.trans HS.out.2⟩
end Go.Proofs.Ytmidpholmgmdpaa
