/- The contract of the maker's form. -/
import Derived.Test.YtmidpholmgmdpaaMf25
import Derived.Deep.RegionHeld3
namespace Go.Proofs.Ytmidpholmgmdpaa
open Go.RowKit
open Go.Maps (Keyed)
set_option linter.unusedVariables false

/-- what the closure captures -/
structure FE (w : World) (b M qb qm qf bb : Nat) : Prop where
  ob : Out w b M qb
  om : Out w b M qm
  of : Out w b M qf
  cb : w.cell? ⟨qb, 0, none⟩ = some (.int .i64 (bb : Int))
  cm : w.cell? ⟨qm, 0, none⟩ = some (.pointer (some ⟨b, 0, none⟩))
  cf : w.cell? ⟨qf, 0, none⟩ = some (.func (.func 41) #[] #[.pointer (some ⟨qb, 0, none⟩), .pointer (some ⟨qm, 0, none⟩), .pointer (some ⟨qf, 0, none⟩)])
theorem FE.kp {w w' : World} {b M qb qm qf bb : Nat} (h : FE w b M qb qm qf bb) (k : Kp b M w w') : FE w' b M qb qm qf bb :=
  ⟨k.out h.ob, k.out h.om, k.out h.of, (k.cell (p := ⟨qb, 0, none⟩) h.ob).trans h.cb, (k.cell (p := ⟨qm, 0, none⟩) h.om).trans h.cm, (k.cell (p := ⟨qf, 0, none⟩) h.of).trans h.cf⟩
/-- a row of the call's argument -/
def SqO (w : World) (b M : Nat) (A : Option Addr) (m : Nat) (c : Nat → Int) : Prop :=
  (∀ j, m ≤ j → c j = 0) ∧ (0 < m → ∃ g off, A = some ⟨g, off, none⟩ ∧ Out w b M g ∧ ∀ j, j < m → w.cell? ⟨g, off + j, none⟩ = some (.int .i64 (c j)))
theorem SqO.kp {w w' : World} {b M m : Nat} {A : Option Addr} {c : Nat → Int} (h : SqO w b M A m c) (k : Kp b M w w') : SqO w' b M A m c :=
  ⟨h.1, fun hm => by
    obtain ⟨g, off, h1, h2, h3⟩ := h.2 hm
    exact ⟨g, off, h1, k.out h2, fun j hj => (k.cell (p := ⟨g, off + j, none⟩) h2).trans (h3 j hj)⟩⟩
/-- the sum while it is made: q5 the result's block, P the map's, q6 the sum's -/
structure FL (w wr : World) (t b M : Nat) (σ : MSt) (a : Int) (f : Nat → Option Int) (N : Nat) (P q5 q6 : Nat) : Prop where
  mak : MK wr t b M σ
  kp : Kp b M w wr
  h5 : wr.heap[q5]? = some (.cells #[.int .i64 0, .map none] 65 (0, 0))
  h6 : wr.heap[q6]? = some (.cells #[.int .i64 a, .map (some P)] 65 (0, 0))
  im : IMap wr 2 P N f
  o5 : Out wr b M q5
  oP : Out wr b M P
  o6 : Out wr b M q6
  n5 : w.heap.size ≤ q5
  nP : w.heap.size ≤ P
  n6 : w.heap.size ≤ q6
  d56 : q5 ≠ q6
theorem IMap.notCells {w : World} {e b N : Nat} {f : Nat → Option Int} (h : IMap w e b N f) (cur : Array Value) (t : TypeId) (fr : Nat × Nat) : w.heap[b]? ≠ some (.cells cur t fr) := by
  obtain ⟨D, ⟨es, clock, h1, h2⟩, h3⟩ := h
  rw [h1]
  intro e
  cases e
theorem FL.dP {w wr : World} {t b M N P q5 q6 : Nat} {σ : MSt} {a : Int} {f : Nat → Option Int} (h : FL w wr t b M σ a f N P q5 q6) : P ≠ q5 ∧ P ≠ q6 :=
  ⟨fun e => h.im.notCells _ _ _ ((congrArg (fun q => wr.heap[q]?) e).trans h.h5), fun e => h.im.notCells _ _ _ ((congrArg (fun q => wr.heap[q]?) e).trans h.h6)⟩
theorem FL.keep {w wr w' : World} {t b M N P q5 q6 : Nat} {σ σ' : MSt} {a : Int} {f : Nat → Option Int} (h : FL w wr t b M σ a f N P q5 q6) (hm : MK w' t b M σ') (k : Kp b M wr w') : FL w w' t b M σ' a f N P q5 q6 :=
  ⟨hm, h.kp.trans k, (k.block _ h.o5).1.trans h.h5, (k.block _ h.o6).1.trans h.h6, h.im.block (k.block _ h.oP).1, k.out h.o5, k.out h.oP, k.out h.o6, h.n5, h.nP, h.n6, h.d56⟩
theorem out_grown {w w' : World} {b M q g : Nat} (hg : w.grownBy w' (some q)) (hq : q ≠ b) (hb : b < w.heap.size) (h : Out w b M g) : Out w' b M g :=
  ⟨Nat.lt_of_lt_of_le h.1 hg.size, h.2.1, h.2.2.1, fun hp => h.2.2.2 ((PB.of_block (hg.block b hb (fun e => hq (by injection e with e; exact e.symm)))).1 hp)⟩
/-- a store into the sum -/
theorem FL.set0 {w wr : World} {t b M N P q5 q6 : Nat} {σ : MSt} {a x : Int} {f : Nat → Option Int} (h : FL w wr t b M σ a f N P q5 q6) (hb : b < w.heap.size) : FL w (wr.setCell ⟨q6, 0, none⟩ (.int .i64 x)) t b M σ x f N P q5 q6 := by
  have hg := grown_set wr ⟨q6, 0, none⟩ (.int .i64 x)
  have hbr : b < wr.heap.size := h.mak.lt.1
  have hne : ∀ cur fr, wr.heap[q6]? ≠ some (.cells cur 2 fr) := fun cur fr e => by
    rw [h.h6] at e
    injection e with e
    injection e with _ e
    exact absurd e (show 65 ≠ 2 by decide)
  have s : ∀ q, q ≠ q6 → (wr.setCell ⟨q6, 0, none⟩ (.int .i64 x)).heap[q]? = wr.heap[q]? := fun q hq => Below.heap_setCell _ _ _ _ hq
  exact ⟨h.mak.grown hg h.o6 hne, h.kp.setCell h.n6 hb, (s _ h.d56).trans h.h5, Go.heap_setCell_same wr q6 0 _ _ _ h.h6, h.im.block (s _ h.dP.2), out_grown hg h.o6.2.1 hbr h.o5, out_grown hg h.o6.2.1 hbr h.oP, out_grown hg h.o6.2.1 hbr h.o6, h.n5, h.nP, h.n6, h.d56⟩
theorem FL.put {w wr w' : World} {t b M N N' P q5 q6 : Nat} {σ : MSt} {a : Int} {f f' : Nat → Option Int} (h : FL w wr t b M σ a f N P q5 q6) (hb : b < w.heap.size) (hm : IMap w' 2 P N' f') (hg : wr.grownBy w' (some P)) : FL w w' t b M σ a f' N' P q5 q6 := by
  have hbr : b < wr.heap.size := h.mak.lt.1
  have s : ∀ q, q < wr.heap.size → q ≠ P → w'.heap[q]? = wr.heap[q]? := fun q h1 h2 => hg.block q h1 (fun e => h2 (by injection e))
  exact ⟨h.mak.grown hg h.oP (fun cur fr => h.im.notCells _ _ _), h.kp.grown hg h.nP hb, (s _ h.o5.1 h.dP.1.symm).trans h.h5, (s _ h.o6.1 h.dP.2.symm).trans h.h6, hm, out_grown hg h.oP.2.1 hbr h.o5, out_grown hg h.oP.2.1 hbr h.oP, out_grown hg h.oP.2.1 hbr h.o6, h.n5, h.nP, h.n6, h.d56⟩
/-- what form leaves -/
def RetForm (w : World) (t b M bb : Nat) (σ : MSt) (m : Nat) (c : Nat → Int) (e : Ending) (w' : World) : Prop :=
  ∃ σ' a f P N, FormR bb σ m c σ' a f ∧ e = .returned (.agg #[.int .i64 a, .map (some P)]) ∧ MK w' t b M σ' ∧ Kp b M w w' ∧ IMap w' 2 P N f ∧ N ≤ m ∧ w.heap.size ≤ P ∧ Out w' b M P

/-- what stays while the result is laid down -/
theorem FL.ret {w wr : World} {t b M N P q5 q6 : Nat} {σ : MSt} {a : Int} {f : Nat → Option Int} (h : FL w wr t b M σ a f N P q5 q6) (hb : b < w.heap.size) (u v : Value) :
    MK ((wr.setCell ⟨q5, 0, none⟩ u).setCell ⟨q5, 1, none⟩ v) t b M σ ∧ Kp b M w ((wr.setCell ⟨q5, 0, none⟩ u).setCell ⟨q5, 1, none⟩ v) ∧ IMap ((wr.setCell ⟨q5, 0, none⟩ u).setCell ⟨q5, 1, none⟩ v) 2 P N f ∧ Out ((wr.setCell ⟨q5, 0, none⟩ u).setCell ⟨q5, 1, none⟩ v) b M P := by
  have hbr : b < wr.heap.size := h.mak.lt.1
  have hg1 := grown_set wr ⟨q5, 0, none⟩ u
  have hg2 := grown_set (wr.setCell ⟨q5, 0, none⟩ u) ⟨q5, 1, none⟩ v
  have hb5 : b < (wr.setCell ⟨q5, 0, none⟩ u).heap.size := Nat.lt_of_lt_of_le hbr hg1.size
  have hno : ∀ (W : World) cs, W.heap[q5]? = some (.cells cs 65 (0, 0)) → ∀ cur fr, W.heap[q5]? ≠ some (.cells cur 2 fr) := fun W cs h5 cur fr e => by
    rw [h5] at e
    injection e with e
    injection e with _ e
    exact absurd e (show 65 ≠ 2 by decide)
  have h5a := Go.heap_setCell_same wr q5 0 _ _ u h.h5
  have o5a := out_grown hg1 h.o5.2.1 hbr h.o5
  have m1 := h.mak.grown hg1 h.o5 (hno _ _ h.h5)
  have m2 := m1.grown hg2 o5a (hno _ _ h5a)
  exact ⟨m2, (h.kp.setCell h.n5 hb).setCell h.n5 hb, h.im.block ((Below.heap_setCell _ _ _ _ h.dP.1).trans (Below.heap_setCell _ _ _ _ h.dP.1)), out_grown hg2 h.o5.2.1 hb5 (out_grown hg1 h.o5.2.1 hbr h.oP)⟩
/-- another sum is laid down -/
theorem FL.swap {w wr : World} {t b M N N2 P P2 q5 q6 : Nat} {σ : MSt} {a a2 : Int} {f f2 : Nat → Option Int} (h : FL w wr t b M σ a f N P q5 q6) (hb : b < w.heap.size) (hi : IMap wr 2 P2 N2 f2) (ho : Out wr b M P2) (hP : w.heap.size ≤ P2) :
    FL w ((wr.setCell ⟨q6, 0, none⟩ (.int .i64 a2)).setCell ⟨q6, 1, none⟩ (.map (some P2))) t b M σ a2 f2 N2 P2 q5 q6 := by
  have h1 := h.set0 (x := a2) hb
  have hbr : b < (wr.setCell ⟨q6, 0, none⟩ (.int .i64 a2)).heap.size := h1.mak.lt.1
  have hg := grown_set (wr.setCell ⟨q6, 0, none⟩ (.int .i64 a2)) ⟨q6, 1, none⟩ (.map (some P2))
  have hne : ∀ cur fr, (wr.setCell ⟨q6, 0, none⟩ (.int .i64 a2)).heap[q6]? ≠ some (.cells cur 2 fr) := fun cur fr e => by
    rw [h1.h6] at e
    injection e with e
    injection e with _ e
    exact absurd e (show 65 ≠ 2 by decide)
  have d2 : P2 ≠ q6 := fun e => hi.notCells _ _ _ ((congrArg (fun q => wr.heap[q]?) e).trans h.h6)
  have s : ∀ q, q ≠ q6 → ((wr.setCell ⟨q6, 0, none⟩ (.int .i64 a2)).setCell ⟨q6, 1, none⟩ (.map (some P2))).heap[q]? = (wr.setCell ⟨q6, 0, none⟩ (.int .i64 a2)).heap[q]? := fun q hq => Below.heap_setCell _ _ _ _ hq
  exact ⟨h1.mak.grown hg h1.o6 hne, h1.kp.setCell h.n6 hb, (s _ h.d56).trans h1.h5, Go.heap_setCell_same _ q6 1 _ _ _ h1.h6, hi.block ((s _ d2).trans (Below.heap_setCell _ _ _ _ d2)), out_grown hg h.o6.2.1 hbr h1.o5, out_grown hg h.o6.2.1 hbr (out_grown (grown_set wr ⟨q6, 0, none⟩ (.int .i64 a2)) h.o6.2.1 h.mak.lt.1 ho), out_grown hg h.o6.2.1 hbr h1.o6, h.n5, hP, h.n6, h.d56⟩
theorem lowF_sq {w : World} {b M k h g off : Nat} {c : Nat → Int} (hs : SqO w b M (some ⟨g, off, none⟩) k c) (hh : h ≤ k) : SqO w b M (some ⟨g, off, none⟩) h (lowF h c) :=
  ⟨fun j hj => if_neg (by omega), fun hp => by
    obtain ⟨g', off', h1, h2, h3⟩ := hs.2 (by omega)
    refine ⟨g', off', h1, h2, fun j hj => ?_⟩
    unfold lowF
    rw [if_pos hj]
    exact h3 j (by omega)⟩
theorem highF_sq {w : World} {b M k h g off : Nat} {c : Nat → Int} (hs : SqO w b M (some ⟨g, off, none⟩) k c) (hh : h ≤ k) : SqO w b M (some ⟨g, off + h, none⟩) (k - h) (highF h c) :=
  ⟨fun j hj => hs.1 _ (by omega), fun hp => by
    obtain ⟨g', off', h1, h2, h3⟩ := hs.2 (by omega)
    injection h1 with h1
    injection h1 with e1 e2
    subst e1 e2
    refine ⟨g, off + h, rfl, h2, fun j hj => ?_⟩
    unfold highF
    rw [Nat.add_assoc]
    exact h3 (h + j) (by omega)⟩
theorem FL.drewN {w wr : World} {t b M N P q5 q6 : Nat} {σ : MSt} {a : Int} {f : Nat → Option Int} (h : FL w wr t b M σ a f N P q5 q6) (d : Nat) : FL w (wr.drewN d) t b M σ a f N P q5 q6 :=
  h.keep (h.mak.below (below_drewN (Below.refl _ _) d)) (Kp.of_below (below_drewN (Below.refl _ _) d) h.mak.lt.1)
theorem FL.start {w : World} {t b M : Nat} {σ : MSt} (h : MK w t b M σ) :
    FL w (((w.alloc (.cells #[.int .i64 0, .map none] 65)).alloc (.map #[] 0)).alloc (.cells #[.int .i64 0, .map (some (w.heap.size + 1))] 65)) t b M σ 0 (fun _ => none) 0 (w.heap.size + 1) w.heap.size (w.heap.size + 1 + 1) := by
  have hb : Below w.heap.size w (((w.alloc (.cells #[.int .i64 0, .map none] 65)).alloc (.map #[] 0)).alloc (.cells #[.int .i64 0, .map (some (w.heap.size + 1))] 65)) := (((Below.refl _ w).alloc (Nat.le_refl _) _).alloc (by rw [World.size_alloc]; omega) _).alloc (by rw [World.size_alloc, World.size_alloc]; omega) _
  have hz : (((w.alloc (.cells #[.int .i64 0, .map none] 65)).alloc (.map #[] 0)).alloc (.cells #[.int .i64 0, .map (some (w.heap.size + 1))] 65)).heap.size = w.heap.size + 3 := by rw [World.size_alloc, World.size_alloc, World.size_alloc]
  have n1 := heap_alloc_new ((w.alloc (.cells #[.int .i64 0, .map none] 65)).alloc (.map #[] 0)) (.cells #[.int .i64 0, .map (some (w.heap.size + 1))] 65 (0, 0))
  rw [World.size_alloc, World.size_alloc] at n1
  have n2 := IMap.made (w.alloc (.cells #[.int .i64 0, .map none] 65)) 2
  rw [World.size_alloc] at n2
  refine ⟨h.below hb, Kp.of_below hb h.lt.1, ?_, n1, n2.block (Below.heap_alloc _ _ _ (by rw [World.size_alloc, World.size_alloc]; omega)), h.new hb (Nat.le_refl _) (by omega), h.new hb (by omega) (by omega), h.new hb (by omega) (by omega), Nat.le_refl _, by omega, by omega, by omega⟩
  rw [Below.heap_alloc _ _ _ (by rw [World.size_alloc, World.size_alloc]; omega), Below.heap_alloc _ _ _ (by rw [World.size_alloc]; omega)]
  exact heap_alloc_new w _
/-- a store into a map, as an equation -/
theorem imap_run {w : World} {e b N : Nat} {f : Nat → Option Int} (h : IMap w e b N f) (t : TypeId) (ht : Try.prog.underlying t = some (.map 3 e)) (he : Try.prog.underlying e = some (.int .i64)) (hN : N ≤ 2000000) (k : Nat) (c : Int) (hk : k ≤ 9223372036854775807) (hc1 : -9223372036854775808 ≤ c) (hc2 : c ≤ 9223372036854775807) :
    ∃ w', (Instr.mapUpdate t (.map (some b)) (.int .i64 (k : Int)) (.int .i64 c)).run Try.prog w = .ok () w' ∧ w.grownBy w' (some b) ∧ ∃ N', IMap w' e b N' (upd f k (some c)) ∧ N' ≤ N + 1 := by
  obtain ⟨D, hD, hs, hf⟩ := h
  obtain ⟨w', h1, h2, h3⟩ := hD.update (key := .int .i64 (k : Int)) (val := .int .i64 c) keyI ht (by unfold maxLen; omega) (keyI_mk (wf64 (by omega) (by omega))) (plainElem_int he (wf64 hc1 hc2))
  obtain ⟨N', h4, h5⟩ := IMap.put (x := k) (c := c) hD hs hf h2
  exact ⟨w', h1, h3, N', h4, h5⟩

set_option maxRecDepth 100000 in
set_option maxHeartbeats 40000000 in
theorem mform_any (t b M qb qm qf bb : Nat) (hbb : 1 ≤ bb) (hbb2 : bb ≤ 1000) : ∀ (m : Nat) (σ : MSt) (c : Nat → Int) (A : Option Addr) (cap : Nat) (w : World), MK w t b M σ → FE w b M qb qm qf bb → SqO w b M A m c → m ≤ cap → cap ≤ 9223372036854775807 → m ≤ 256 → σ.Ok → σ.n + 2 * (m * m) ≤ 800000 → σ.N + 2 * (m * m) ≤ 800000 → (∀ j, -2147483648 ≤ c j ∧ c j ≤ 2147483648) →
    Calls Try.prog 41 #[.slice A m cap, .pointer (some ⟨qb, 0, none⟩), .pointer (some ⟨qm, 0, none⟩), .pointer (some ⟨qf, 0, none⟩)] w (RetForm w t b M bb σ m c) := by
  intro m
  induction m using Nat.strongRecOn with
  | _ m ih =>
  intro σ c A cap w hmk hfe hsq hmc hcap hm hok hn hN hcb
  have HMK := Lib.hid hmk
  have HFE := Lib.hid hfe
  have HSQ := Lib.hid hsq
  have HOK := Lib.hid hok
  have HCB := Lib.hid hcb
  have HIH := Lib.hid ih
  have hbl := hmk.lt.1
  have eb := hfe.cb
  have ebl := hfe.ob.1
  clear hmk hfe hsq hok hcb ih
  have eb2 : ((((w.alloc (.cells #[.int .i64 0, .map none] 65)).alloc (.map #[] 0)).alloc (.cells #[.int .i64 0, .map (some (w.heap.size + 1))] 65))).cell? ⟨qb, 0, none⟩ = some (.int .i64 (bb : Int)) := ((FL.start HMK.out).kp.cell (p := ⟨qb, 0, none⟩) HFE.out.ob).trans eb
  have hmm := @run_makeMap Try.prog
  go_enter Try.func41, Try.ntmps41
  go_wp2
  go_loop [0] (fun L => ∃ k : Nat, L = .slice A k cap ∧ k ≤ m ∧ SqO w b M A k c ∧ ∀ σ' a f, FormR bb σ k c σ' a f → FormR bb σ m c σ' a f) (fun L => sliceLen (some L))
  case atStart => exact ⟨m, rfl, Nat.le_refl _, HSQ.out, fun _ _ _ h => h⟩
  case round =>
    obtain ⟨k, rfl, hkm, hsqk, himp⟩ := hrel
    have HSK := Lib.hid hsqk
    have HIM := Lib.hid himp
    clear hsqk himp
    have hcase : k = 0 ∨ (0 < k ∧ c (k - 1) = 0) ∨ (0 < k ∧ c (k - 1) ≠ 0) := by omega
    rcases hcase with hk0 | ⟨hk0, hck⟩ | ⟨hk0, hck⟩
    · have d1 : decide ((k : Int) > 0) = false := decide_eq_false (by omega)
      have d2 : decide (0 < k) = false := decide_eq_false (by omega)
      have d3 : decide ((k : Int) - 1 ≤ (bb : Int)) = true := decide_eq_true (by omega)
      have HK0 := Lib.hid hk0
      have HKB : Hid (k ≤ bb + 1) := Lib.hid (by omega)
      clear hk0
      obtain ⟨w3, hw3⟩ : ∃ w3, w3 = (((w.alloc (.cells #[.int .i64 0, .map none] 65)).alloc (.map #[] 0)).alloc (.cells #[.int .i64 0, .map (some (w.heap.size + 1))] 65)) := ⟨_, rfl⟩
      have hfl3 := FL.start HMK.out
      rw [← hw3] at hfl3
      have HW3 := Lib.hid hw3
      have HFL3 := Lib.hid hfl3
      clear hw3 hfl3
      go_wp2
      rw [← HW3.out]
      go_loopw [37] (fun I wr => ∃ (i : Nat) (σ' : MSt) (a : Int) (f : Nat → Option Int) (N : Nat), I = .int .i64 (i : Int) ∧ i ≤ k ∧ PowsR c σ i σ' a f ∧ FL w wr t b M σ' a f N (w.heap.size + 1) w.heap.size (w.heap.size + 1 + 1) ∧ N ≤ i) (fun I _ => k - (intOf I).toNat)
      case atStart => exact ⟨0, σ, 0, _, 0, rfl, Nat.zero_le _, PowsR.nil, HFL3.out, Nat.le_refl _⟩
      case round =>
        obtain ⟨i, σ', a, f, N, rfl, hik, hpw, hfl, hNi⟩ := hrel
        have HPW := Lib.hid hpw
        have HFL := Lib.hid hfl
        obtain ⟨x0, x1⟩ := cells2 hfl.h6
        obtain ⟨y0, y1⟩ := cells2 hfl.h5
        have xf0 := Go.frozen_of_row wr (w.heap.size + 1 + 1) 0 _ _ hfl.h6
        have yf0 := Go.frozen_of_row wr w.heap.size 0 _ _ hfl.h5
        have yf1 := Go.frozen_of_row wr w.heap.size 1 _ _ hfl.h5
        have hfw := HFE.out.kp hfl.kp
        have em := hfw.cm
        clear hpw hfl hfw
        by_cases hin : i < k
        · exact absurd hin (by have := HK0.out; omega)
        · obtain rfl : k = i := by omega
          have e3 : decide ((k : Int) < (k : Int)) = false := decide_eq_false (by omega)
          have HR := Lib.hid (HFL.out.ret hbl (.int .i64 a) (.map (some (w.heap.size + 1))))
          have r5a := Go.heap_setCell_same wr w.heap.size 0 _ _ (.int .i64 a) HFL.out.h5
          have r0 : (wr.setCell ⟨w.heap.size, 0, none⟩ (.int .i64 a)).cell? ⟨w.heap.size, 0, none⟩ = some (.int .i64 a) := Go.cell_of_row _ w.heap.size 0 _ _ _ r5a
          have r1 : ((wr.setCell ⟨w.heap.size, 0, none⟩ (.int .i64 a)).setCell ⟨w.heap.size, 1, none⟩ (.map (some (w.heap.size + 1)))).cell? ⟨w.heap.size, 1, none⟩ = some (.map (some (w.heap.size + 1))) := Go.cell_of_row _ w.heap.size 1 _ _ _ (Go.heap_setCell_same _ w.heap.size 1 _ _ (.map (some (w.heap.size + 1))) r5a)
          clear r5a
          go_wp2
          refine bodyPost_ret (v := .agg #[.int .i64 a, .map (some (w.heap.size + 1))]) (by simp [results, Try.results41, go_sem, r0, r1]) rfl ⟨σ', a, f, _, N, HIM.out _ _ _ (FormR.base HKB.out HPW.out), rfl, HR.out.1, HR.out.2.1, HR.out.2.2.1, by omega, by omega, HR.out.2.2.2⟩
    · have d1 : decide ((k : Int) > 0) = true := decide_eq_true (by omega)
      have d2 : decide (0 < k) = true := decide_eq_true (by omega)
      obtain ⟨g, off, rfl, ho, hcell⟩ := HSK.out.2 hk0
      have k1 := hcell (k - 1) (by omega)
      rw [hck] at k1
      have hgl := ho.1
      have i0 : 0 ≤ (k : Int) - 1 := by omega
      have i1 : (k : Int) - 1 < (k : Int) := by omega
      have i2 : ((k : Int) - 1).toNat = k - 1 := by omega
      have i3 : (k : Int) - 1 ≤ (cap : Int) := by omega
      have HCK := Lib.hid hck
      clear hcell hck
      go_wp2
      go_round
      case rel => exact ⟨k - 1, by go_num, by omega, ⟨fun j hj => by
        by_cases hj2 : j = k - 1
        · rw [hj2]; exact HCK.out
        · exact HSK.out.1 j (by omega), fun h0 => by
        obtain ⟨g', off', e1, e2, e3⟩ := HSK.out.2 (by omega)
        exact ⟨g', off', e1, e2, fun j hj => e3 j (by omega)⟩⟩, fun σ' a f h => HIM.out σ' a f (by
        have := FormR.trim (m := k - 1) h HCK.out
        rw [Nat.sub_add_cancel (by omega)] at this
        exact this)⟩
      case measure => simp only [sliceLen]; omega
    · have d1 : decide ((k : Int) > 0) = true := decide_eq_true (by omega)
      have d2 : decide (0 < k) = true := decide_eq_true (by omega)
      obtain ⟨g, off, rfl, ho, hcell⟩ := HSK.out.2 hk0
      have k1 := hcell (k - 1) (by omega)
      have dk : (c (k - 1) == 0) = false := by rw [beq_eq_false_iff_ne]; exact hck
      have hgl := ho.1
      have i0 : 0 ≤ (k : Int) - 1 := by omega
      have i1 : (k : Int) - 1 < (k : Int) := by omega
      have i2 : ((k : Int) - 1).toNat = k - 1 := by omega
      have HCK := Lib.hid hck
      clear hcell hck
      by_cases hkb : k ≤ bb + 1
      · have d3 : decide ((k : Int) - 1 ≤ (bb : Int)) = true := decide_eq_true (by omega)
        have HKB := Lib.hid hkb
        obtain ⟨w3, hw3⟩ : ∃ w3, w3 = (((w.alloc (.cells #[.int .i64 0, .map none] 65)).alloc (.map #[] 0)).alloc (.cells #[.int .i64 0, .map (some (w.heap.size + 1))] 65)) := ⟨_, rfl⟩
        have hfl3 := FL.start HMK.out
        rw [← hw3] at hfl3
        have HW3 := Lib.hid hw3
        have HFL3 := Lib.hid hfl3
        clear hw3 hfl3
        go_wp2
        rw [← HW3.out]
        go_loopw [37] (fun I wr => ∃ (i : Nat) (σ' : MSt) (a : Int) (f : Nat → Option Int) (N : Nat), I = .int .i64 (i : Int) ∧ i ≤ k ∧ PowsR c σ i σ' a f ∧ FL w wr t b M σ' a f N (w.heap.size + 1) w.heap.size (w.heap.size + 1 + 1) ∧ N ≤ i) (fun I _ => k - (intOf I).toNat)
        case atStart => exact ⟨0, σ, 0, _, 0, rfl, Nat.zero_le _, PowsR.nil, HFL3.out, Nat.le_refl _⟩
        case round =>
          obtain ⟨i, σ', a, f, N, rfl, hik, hpw, hfl, hNi⟩ := hrel
          have HPW := Lib.hid hpw
          have HFL := Lib.hid hfl
          obtain ⟨x0, x1⟩ := cells2 hfl.h6
          obtain ⟨y0, y1⟩ := cells2 hfl.h5
          have xf0 := Go.frozen_of_row wr (w.heap.size + 1 + 1) 0 _ _ hfl.h6
          have yf0 := Go.frozen_of_row wr w.heap.size 0 _ _ hfl.h5
          have yf1 := Go.frozen_of_row wr w.heap.size 1 _ _ hfl.h5
          have hfw := HFE.out.kp hfl.kp
          have em := hfw.cm
          clear hpw hfl hfw
          by_cases hin : i < k
          · have e3 : decide ((i : Int) < (k : Int)) = true := decide_eq_true (by omega)
            obtain ⟨g2, off2, hA2, ho2, hcell2⟩ := (HSK.out.kp HFL.out.kp).2 hk0
            have kx := hcell2 i hin
            have hcx := HCB.out i
            obtain ⟨x, hx⟩ : ∃ x, c i = x := ⟨_, rfl⟩
            rw [hx] at kx hcx
            have HX := Lib.hid hx
            have j0 : 0 ≤ (i : Int) := by omega
            have j1 : (i : Int) < (k : Int) := by omega
            injection hA2 with hA2
            injection hA2 with hA2 hA3
            subst hA2 hA3
            clear hcell2 hx
            have hcase : i = 0 ∨ (0 < i ∧ x = 0) ∨ (0 < i ∧ x ≠ 0) := by omega
            rcases hcase with hi0 | ⟨hi0, hx0⟩ | ⟨hi0, hx0⟩
            · have di : ((i : Int) == 0) = true := by rw [hi0]; rfl
              have HI0 := Lib.hid hi0
              clear hi0
              have HS0 := Lib.hid (HFL.out.set0 (x := x) hbl)
              go_wp2
              go_roundw
              case rel => exact ⟨i + 1, σ', x, f, N, by go_num, hin, by
                have hp := HPW.out
                have hxx := HX.out
                rw [HI0.out] at hp hxx ⊢
                rw [← hxx]
                exact PowsR.head hp, HS0.out, by omega⟩
              case measure => simp only [intOf]; omega
            · have di : ((i : Int) == 0) = false := by rw [beq_eq_false_iff_ne]; omega
              subst hx0
              go_wp2
              go_roundw
              case rel => exact ⟨i + 1, σ', a, f, N, by go_num, hin, PowsR.skip HPW.out hi0 HX.out, HFL.out, by omega⟩
              case measure => simp only [intOf]; omega
            · have di : ((i : Int) == 0) = false := by rw [beq_eq_false_iff_ne]; omega
              have dx : (x != 0) = true := by rw [bne_iff_ne]; exact hx0
              have HX0 : Hid (c i ≠ 0) := Lib.hid (by rw [HX.out]; exact hx0)
              clear hx0
              have hfc := HPW.out.facts HOK.out
              have hii : i * i ≤ m * m := Nat.mul_le_mul (by omega) (by omega)
              have hok' := hfc.1
              have hn1 := hfc.2.1
              have hn2 := hfc.2.2.1
              have hn3 := hfc.2.2.2.1
              have HOK' := Lib.hid hok'
              have HPO := Lib.hid (mpower_any t b M i σ' (wr.drewN 1) (HFL.out.drewN 1).mak hi0 (by omega) hok'.1 (by omega) (by omega))
              have HSS : Hid (∀ W, Kp b M wr W → W.cell? ⟨w.heap.size + 1 + 1, 1, none⟩ = some (.map (some (w.heap.size + 1))) ∧ W.cell? ⟨qm, 0, none⟩ = some (.pointer (some ⟨b, 0, none⟩))) := Lib.hid fun W hk => ⟨(hk.cell (p := ⟨w.heap.size + 1 + 1, 1, none⟩) HFL.out.o6).trans x1, (hk.cell (p := ⟨qm, 0, none⟩) (HFE.out.kp HFL.out.kp).om).trans em⟩
              have hkd : Kp b M wr (wr.drewN 1) := Kp.of_below (below_drewN (Below.refl _ _) 1) HFL.out.mak.lt.1
              have HKD := Lib.hid hkd
              clear hfc hok' hkd
              go_wp2
              go_region_held3 (fun w' => w'.cell? ⟨w.heap.size + 1 + 1, 1, none⟩ = some (.map (some (w.heap.size + 1))) ∧ w'.cell? ⟨qm, 0, none⟩ = some (.pointer (some ⟨b, 0, none⟩)))
                (first
                  | exact HSS.out _ (Kp.refl _ _ _)
                  | exact HSS.out _ HKD.out
                  | exact HS6.out
                  | exact HS7.out
                  | fail)
                (first
                  | (go_at_call 42
                     refine HPO.out.mono ?_
                     rintro e w6 ⟨σ2, r6, hp6, rfl, hm6, hk6⟩
                     have hok6 := hp6.ok hi0 HOK'.out
                     obtain ⟨R, rfl, hR⟩ : ∃ R : Nat, r6 = (R : Int) ∧ R ≤ σ2.n := ⟨r6.toNat, by omega, by omega⟩
                     have hf6 := hp6.facts hi0 HOK'.out.1
                     have hF6 := (HFL.out.drewN 1).keep hm6 hk6
                     obtain ⟨w7, hrun7, hg7, N7, hi7, hN7⟩ := imap_run hF6.im 63 Try.underlying63 Try.underlying2 (by omega) R x (by omega) (by omega) (by omega)
                     have HP6 := Lib.hid (PowsR.pow HPW.out hi0 HX0.out hp6)
                     have HS6 := Lib.hid (HSS.out w6 (HKD.out.trans hk6))
                     have HF7 := Lib.hid (hF6.put hbl hi7 hg7)
                     have HS7 : Hid (w7.cell? ⟨w.heap.size + 1 + 1, 1, none⟩ = some (.map (some (w.heap.size + 1))) ∧ w7.cell? ⟨qm, 0, none⟩ = some (.pointer (some ⟨b, 0, none⟩))) := Lib.hid ⟨(cells2 HF7.out.h6).2, (HFE.out.kp HF7.out.kp).cm⟩
                     clear hp6 hm6 hk6 hF6 hg7 hi7 hok6)
                  | fail)
              all_goals
                go_wp2
                go_roundw
                case rel => exact ⟨i + 1, σ2, a, _, N7, by go_num, hin, by rw [← HX.out]; exact HP6.out, HF7.out, by omega⟩
                case measure => simp only [intOf]; omega
          · obtain rfl : k = i := by omega
            have e3 : decide ((k : Int) < (k : Int)) = false := decide_eq_false (by omega)
            have HR := Lib.hid (HFL.out.ret hbl (.int .i64 a) (.map (some (w.heap.size + 1))))
            have r5a := Go.heap_setCell_same wr w.heap.size 0 _ _ (.int .i64 a) HFL.out.h5
            have r0 : (wr.setCell ⟨w.heap.size, 0, none⟩ (.int .i64 a)).cell? ⟨w.heap.size, 0, none⟩ = some (.int .i64 a) := Go.cell_of_row _ w.heap.size 0 _ _ _ r5a
            have r1 : ((wr.setCell ⟨w.heap.size, 0, none⟩ (.int .i64 a)).setCell ⟨w.heap.size, 1, none⟩ (.map (some (w.heap.size + 1)))).cell? ⟨w.heap.size, 1, none⟩ = some (.map (some (w.heap.size + 1))) := Go.cell_of_row _ w.heap.size 1 _ _ _ (Go.heap_setCell_same _ w.heap.size 1 _ _ (.map (some (w.heap.size + 1))) r5a)
            clear r5a
            go_wp2
            refine bodyPost_ret (v := .agg #[.int .i64 a, .map (some (w.heap.size + 1))]) (by simp [results, Try.results41, go_sem, r0, r1]) rfl ⟨σ', a, f, _, N, HIM.out _ _ _ (FormR.base HKB.out HPW.out), rfl, HR.out.1, HR.out.2.1, HR.out.2.2.1, by omega, by omega, HR.out.2.2.2⟩
      · have d3 : decide ((k : Int) - 1 ≤ (bb : Int)) = false := decide_eq_false (by omega)
        obtain ⟨L, hL⟩ : ∃ L, Lib.bitLen (k - 2) = L := ⟨_, rfl⟩
        have hLb := bitLen_pow (x := k - 2) (by omega) (by omega)
        rw [hL] at hLb
        have hLc : ((k - 2 : Nat) : Int) = (k : Int) - 2 := by omega
        have HBL : Hid (∀ W : World, Calls Try.prog 40 #[.int .u64 ((k : Int) - 2)] W (RetP W (.int .i64 (L : Int)))) := Lib.hid fun W => hLc ▸ hL ▸ bitsLen_any (k - 2) W (by omega)
        have hh := halfOf_lt (m := k) (by omega) (by omega)
        obtain ⟨h, hhe⟩ : ∃ h, halfOf k = h := ⟨_, rfl⟩
        rw [hhe] at hh
        have HH := Lib.hid hhe
        have hL1 : 1 ≤ L := hLb.1
        have hL9 : L ≤ 64 := by rw [← hL]; exact bitLenAux_le 64 _
        have HWL : Hid (wrap64 ((2 : Int) ^ (L - 1)) = (h : Int)) := Lib.hid (by
          have e : (2 : Int) ^ (L - 1) = (h : Int) := by
            rw [← hhe]
            unfold halfOf
            rw [hL]
            simp
          rw [e]
          exact IntWalk.wrap64_in _ (by omega))
        clear hL hLb hLc hhe
        obtain ⟨w3, hw3⟩ : ∃ w3, w3 = (((w.alloc (.cells #[.int .i64 0, .map none] 65)).alloc (.map #[] 0)).alloc (.cells #[.int .i64 0, .map (some (w.heap.size + 1))] 65)) := ⟨_, rfl⟩
        have hfl3 := FL.start HMK.out
        rw [← hw3] at hfl3
        have HW3 := Lib.hid hw3
        have HFL3 := Lib.hid hfl3
        have hfw := HFE.out.kp hfl3.kp
        have em := hfw.cm
        have ef := hfw.cf
        clear hw3 hfl3 hfw
        have hkmm := Nat.mul_le_mul hkm hkm
        have hsp := sq_split (m := k) (h := h) (by omega) (by omega)
        obtain ⟨dd, hdd⟩ : ∃ dd, k - h = dd := ⟨_, rfl⟩
        rw [hdd] at hsp
        obtain ⟨qd, hqd⟩ : ∃ q, dd * dd = q := ⟨_, rfl⟩
        obtain ⟨qh, hqh⟩ : ∃ q, h * h = q := ⟨_, rfl⟩
        obtain ⟨qm2, hqm2⟩ : ∃ q, m * m = q := ⟨_, rfl⟩
        obtain ⟨qk, hqk⟩ : ∃ q, k * k = q := ⟨_, rfl⟩
        rw [hqd, hqh, hqk] at hsp
        rw [hqk, hqm2] at hkmm
        have HQS := Lib.hid (And.intro hqd (And.intro hqh (And.intro hqm2 hqk)))
        have hn' : σ.n + 2 * qm2 ≤ 800000 := by rw [← hqm2]; exact hn
        have hN' : σ.N + 2 * qm2 ≤ 800000 := by rw [← hqm2]; exact hN
        have hdk : dd + h = k := by omega
        have HDD := Lib.hid hdd
        clear hqd hqh hqm2 hqk hn hN hdd
        have hfd : FL w w3.drew t b M σ 0 (fun _ => none) 0 (w.heap.size + 1) w.heap.size (w.heap.size + 1 + 1) := HFL3.out.drewN 1
        have HFD := Lib.hid hfd
        clear hfd
        have HFO := Lib.hid (HIH.out dd (by omega) σ (highF h c) (some ⟨g, off + h, none⟩) (cap - h) w3.drew HFD.out.mak (HFE.out.kp HFD.out.kp) (HDD.out ▸ highF_sq (HSK.out.kp HFD.out.kp) (by omega)) (by omega) (by omega) (by omega) HOK.out (by rw [HQS.out.1]; omega) (by rw [HQS.out.1]; omega) (fun j => HCB.out _))
        have hdd2 : k - h = dd := HDD.out
        have s0 : 0 ≤ (h : Int) := by omega
        have s1 : (h : Int) ≤ (k : Int) := by omega
        have s2 : ¬ h = cap := by omega
        have s3 : ¬ cap = h := by omega
        have s4 : (h : Int) ≤ (cap : Int) := by omega
        have s5 : (h : Int) < (cap : Int) := by omega
        have HSS : Hid (∀ W, Kp b M w W → W.cell? ⟨qm, 0, none⟩ = some (.pointer (some ⟨b, 0, none⟩)) ∧ W.cell? ⟨qf, 0, none⟩ = some (.func (.func 41) #[] #[.pointer (some ⟨qb, 0, none⟩), .pointer (some ⟨qm, 0, none⟩), .pointer (some ⟨qf, 0, none⟩)])) := Lib.hid fun W hk => ⟨(HFE.out.kp hk).cm, (HFE.out.kp hk).cf⟩
        go_wp2_with (go_at_call 40; refine (HBL.out _).mono ?_; rintro e w' ⟨rfl, hw⟩; subst hw)
        rw [HWL.out]
        rw [← HW3.out]
        clear HBL eb2
        go_region_held3 (fun w' => w'.cell? ⟨qm, 0, none⟩ = some (.pointer (some ⟨b, 0, none⟩)) ∧ w'.cell? ⟨qf, 0, none⟩ = some (.func (.func 41) #[] #[.pointer (some ⟨qb, 0, none⟩), .pointer (some ⟨qm, 0, none⟩), .pointer (some ⟨qf, 0, none⟩)]))
          (first
            | exact HSS.out _ HFL3.out.kp
            | exact HSS.out _ HFD.out.kp
            | exact HSS.out _ HFL4.out.kp
            | exact HSS.out _ HFL5.out.kp
            | fail)
          (first
            | (go_at_call 41
               ((with_reducible refine HFO.out.mono ?_); rintro e w4 ⟨σ1, a1, f1, P1, N1, hfr1, rfl, hm4, hk4, hi4, hN4, hP4, ho4⟩)
               have hfc1 := hfr1.facts hbb (by omega) HOK.out
               have HFR1 := Lib.hid hfr1
               have HOK1 := Lib.hid hfc1.1
               have HFN1 := Lib.hid hfc1.2.2.2.2
               have hn1a := hfc1.2.1
               have hn1b := hfc1.2.2.1
               have hn1c := hfc1.2.2.2.1
               rw [HQS.out.1] at hn1b hn1c
               have HFL4 := Lib.hid (HFD.out.keep hm4 hk4)
               have HRE := Lib.hid (mregister_any t b M P1 N1 a1 f1 σ1 w4 hm4 hi4 ho4 hfc1.2.2.2.2 (by omega) (by omega))
               clear hfr1 hm4 hk4 hi4 hP4 ho4 hfc1 hN4)
            | (go_at_call 43
               ((with_reducible refine HRE.out.mono ?_); rintro e w5 ⟨σ2, rh, hre, rfl, hm5, hk5⟩)
               have hfc2 := hre.ok HOK1.out HFN1.out
               have HRE2 := Lib.hid hre
               have HOK2 := Lib.hid hfc2.1
               have hn2a := hfc2.2.2.2.1
               have hn2b := hfc2.2.2.2.2.1
               have hn2c := hfc2.2.2.2.2.2
               have HFL5 := Lib.hid (HFL4.out.keep hm5 hk5)
               clear hre hm5 hk5 hfc2)
            | fail)
        all_goals
          go_wp2
          have hfd5 : FL w w5.drew t b M σ2 0 (fun _ => none) 0 (w.heap.size + 1) w.heap.size (w.heap.size + 1 + 1) := HFL5.out.drewN 1
          have HFD5 := Lib.hid hfd5
          clear hfd5 hdd2
          have HFO2 := Lib.hid (HIH.out h (by omega) σ2 (lowF h c) (some ⟨g, off, none⟩) cap w5.drew HFD5.out.mak (HFE.out.kp HFD5.out.kp) (lowF_sq (HSK.out.kp HFD5.out.kp) (by omega)) (by omega) hcap (by omega) HOK2.out (by rw [HQS.out.2.1]; omega) (by rw [HQS.out.2.1]; omega) (fun j => by
            unfold lowF
            split
            · exact HCB.out _
            · omega))
          go_region_held3 (fun w' => w'.cell? ⟨qf, 0, none⟩ = some (.func (.func 41) #[] #[.pointer (some ⟨qb, 0, none⟩), .pointer (some ⟨qm, 0, none⟩), .pointer (some ⟨qf, 0, none⟩)]))
            (first
              | exact (HSS.out _ HFL5.out.kp).2
              | exact (HSS.out _ HFD5.out.kp).2
              | exact (HSS.out _ HFL6.out.kp).2
              | exact (HSS.out _ HFL7.out.kp).2
              | fail)
            (first
              | (go_at_call 41
                 ((with_reducible refine HFO2.out.mono ?_); rintro e w6 ⟨σ3, a2, f2, P2, N2, hfr3, rfl, hm6, hk6, hi6, hN6, hP6, ho6⟩)
                 have hfc3 := hfr3.facts hbb (by omega) HOK2.out
                 have HFR3 := Lib.hid hfr3
                 have HOK3 := Lib.hid hfc3.1
                 have hn3a := hfc3.2.1
                 have hn3b := hfc3.2.2.1
                 have hn3c := hfc3.2.2.2.1
                 rw [HQS.out.2.1] at hn3b hn3c
                 have HFL6 := Lib.hid (HFD5.out.keep hm6 hk6)
                 have hP2 : w.heap.size ≤ P2 := Nat.le_trans HFD5.out.kp.size hP6
                 have hN2 : N2 + 2 ≤ k := by omega
                 have HFL7 := Lib.hid (HFL6.out.swap (a2 := a2) hbl hi6 ho6 hP2)
                 obtain ⟨x60, x61⟩ := cells2 HFL6.out.h6
                 have xf60 := Go.frozen_of_row w6 (w.heap.size + 1 + 1) 0 _ _ HFL6.out.h6
                 have xf61 := Go.frozen_of_row w6 (w.heap.size + 1 + 1) 1 _ _ HFL6.out.h6
                 clear hfr3 hm6 hk6 hi6 hP6 ho6 hfc3 hN6)
              | fail)
          all_goals
            clear x60 x61 xf60 xf61
            obtain ⟨w7, hw7⟩ : ∃ w7, w7 = ((w6.setCell ⟨w.heap.size + 1 + 1, 0, none⟩ (.int .i64 a2)).setCell ⟨w.heap.size + 1 + 1, 1, none⟩ (.map (some P2))) := ⟨_, rfl⟩
            rw [← hw7] at HFL7
            have HW7 := Lib.hid hw7
            clear hw7
            go_wp2
            rw [← HW7.out]
            have hfd7 : FL w w7.drew t b M σ3 a2 f2 N2 P2 w.heap.size (w.heap.size + 1 + 1) := HFL7.out.drewN 1
            have HFD7 := Lib.hid hfd7
            have x71 := (cells2 HFL7.out.h6).2
            clear hfd7
            have HPO := Lib.hid (mpower_any t b M h σ3 w7.drew HFD7.out.mak (by omega) (by omega) HOK3.out.1 (by omega) (by omega))
            go_region_held3 (fun w' => w'.cell? ⟨w.heap.size + 1 + 1, 1, none⟩ = some (.map (some P2)) ∧ w'.cell? ⟨qm, 0, none⟩ = some (.pointer (some ⟨b, 0, none⟩)))
              (first
                | exact ⟨(cells2 HFL7.out.h6).2, (HSS.out _ HFL7.out.kp).1⟩
                | exact ⟨(cells2 HFD7.out.h6).2, (HSS.out _ HFD7.out.kp).1⟩
                | exact ⟨(cells2 HFL8.out.h6).2, (HSS.out _ HFL8.out.kp).1⟩
                | exact ⟨(cells2 HFL9.out.h6).2, (HSS.out _ HFL9.out.kp).1⟩
                | exact ⟨(cells2 HFL10.out.h6).2, (HSS.out _ HFL10.out.kp).1⟩
                | fail)
              (first
                | (go_at_call 42
                   ((with_reducible refine HPO.out.mono ?_); rintro e w8 ⟨σ4, rp, hp8, rfl, hm8, hk8⟩)
                   have hf8 := (hp8.facts (by omega) HOK3.out.1).2
                   have HP8 := Lib.hid hp8
                   have HFL8 := Lib.hid (HFD7.out.keep hm8 hk8)
                   have hst : Calls Try.prog 44 #[.pointer (some ⟨b, 0, none⟩), .agg #[.bool true, .int .i64 rh, .int .i64 rp, .int .i64 0, .slice none 0 0]] w8 (RetMk w8 t b M fun σ' r => σ' = σ4.push (mulS rh rp) ∧ r = (σ4.n : Int) + 1) := mstep_any t b M σ4 (mulS rh rp) none 0 w8 hm8 (CsAt.nil rfl fun _ => rfl) (by omega)
                   have HST := Lib.hid hst
                   clear hp8 hm8 hk8 hst)
                | (go_at_call 44
                   ((with_reducible refine HST.out.mono ?_); rintro e w9 ⟨σ5, r5, ⟨rfl, rfl⟩, rfl, hm9, hk9⟩)
                   have HFL9 := Lib.hid (HFL8.out.keep hm9 hk9)
                   obtain ⟨w10, hrun10, hg10, N10, hi10, hN10⟩ := imap_run HFL9.out.im 63 Try.underlying63 Try.underlying2 (by omega) (σ4.n + 1) 1 (by omega) (by omega) (by omega)
                   rw [show ((σ4.n + 1 : Nat) : Int) = (σ4.n : Int) + 1 from by omega] at hrun10
                   have HFL10 := Lib.hid (HFL9.out.put hbl hi10 hg10)
                   clear hm9 hk9 hg10 hi10)
                | fail)
            all_goals
              clear x71
              obtain ⟨x0, x1⟩ := cells2 HFL10.out.h6
              obtain ⟨y0, y1⟩ := cells2 HFL10.out.h5
              have yf0 := Go.frozen_of_row w10 w.heap.size 0 _ _ HFL10.out.h5
              have yf1 := Go.frozen_of_row w10 w.heap.size 1 _ _ HFL10.out.h5
              have HR := Lib.hid (HFL10.out.ret hbl (.int .i64 a2) (.map (some P2)))
              have r5a := Go.heap_setCell_same w10 w.heap.size 0 _ _ (.int .i64 a2) HFL10.out.h5
              have r0 : (w10.setCell ⟨w.heap.size, 0, none⟩ (.int .i64 a2)).cell? ⟨w.heap.size, 0, none⟩ = some (.int .i64 a2) := Go.cell_of_row _ w.heap.size 0 _ _ _ r5a
              have r1 : ((w10.setCell ⟨w.heap.size, 0, none⟩ (.int .i64 a2)).setCell ⟨w.heap.size, 1, none⟩ (.map (some P2))).cell? ⟨w.heap.size, 1, none⟩ = some (.map (some P2)) := Go.cell_of_row _ w.heap.size 1 _ _ _ (Go.heap_setCell_same _ w.heap.size 1 _ _ (.map (some P2)) r5a)
              have hn10 : N10 ≤ m := by omega
              have HFIN := Lib.hid (HIM.out _ _ _ (FormR.split (bb := bb) (m := k) (by omega) HCK.out HH.out (by rw [HDD.out]; exact HFR1.out) HRE2.out HFR3.out HP8.out))
              clear r5a
              go_wp2
              refine bodyPost_ret (v := .agg #[.int .i64 a2, .map (some P2)]) (by simp [results, Try.results41, go_sem, r0, r1]) rfl ⟨_, a2, _, P2, N10, HFIN.out, rfl, HR.out.1, HR.out.2.1, HR.out.2.2.1, hn10, HFL10.out.nP, HR.out.2.2.2⟩
end Go.Proofs.Ytmidpholmgmdpaa
