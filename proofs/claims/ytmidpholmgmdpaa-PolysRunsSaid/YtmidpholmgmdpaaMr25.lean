/- The contract of the maker's register. -/
import Derived.Test.YtmidpholmgmdpaaMp25
import Derived.Test.YtmidpholmgmdpaaPow
namespace Go.Proofs.Ytmidpholmgmdpaa
open Go.RowKit
open Go.Maps (Keyed)
set_option linter.unusedVariables false

/-- what register makes of a state, of a sum: a constant and numbers at registers -/
inductive RegR : MSt → Int → (Nat → Option Int) → MSt → Int → Prop
  | one {σ : MSt} {f : Nat → Option Int} {r : Nat} (h : f r = some 1) (h2 : ∀ y, f y ≠ none → y = r) : RegR σ 0 f σ (r : Int)
  | mk {σ : MSt} {first : Int} {f : Nat → Option Int} {S : PS} (h1 : S.mul = false) (h2 : S.a = 0) (h3 : S.b = 0) (h4 : S.first = first) (h5 : S.n ≤ σ.n + 1) (h6 : ∀ j, S.cs j = (f j).getD 0) (h7 : ∀ j, S.n ≤ j → S.cs j = 0) : RegR σ first f (σ.push S) ((σ.n : Int) + 1)

def sliceLen : Option Value → Nat
  | some (.slice _ n _) => n
  | _ => 0
/-- the round of register: what has been laid down -/
def RL (w wr : World) (n : Nat) (D : DataW Nat) (f : Nat → Option Int) (first : Int) (P N : Nat) (left : Lit → Bool) (cnt : Nat) (g : Nat → Int) : Prop :=
  wr.ranges Try.prog 3 (plainElem Try.prog 2) P (w.heap.size + 2) N D left cnt ∧ wr.heap[w.heap.size]? = some (.cells #[.int .i64 first, .map (some P)] 65 (0, 0)) ∧ Below w.heap.size w wr ∧
    ∃ (A : Option Addr) (L cA : Nat), wr.heap[w.heap.size + 1]? = some (.cells #[.bool false, .int .i64 0, .int .i64 0, .int .i64 first, .slice A L cA] 37 (0, 0)) ∧ Z.Own .i64 wr (w.heap.size + 3) 2 A L cA g ∧ L ≤ n + 1
def gF (f : Nat → Option Int) (left : Lit → Bool) (j : Nat) : Int := if left (.int .i64 (j : Int)) = true then 0 else (f j).getD 0

theorem wpl_rng {H : Type} {P : Program} {w : World} {ops : Array Oper} {rest : List Oper} {o : Oper} {a : Act} {Q : Exit → Act → World → Prop} (hg : o.guard = none) (m : Operand) (t : TypeId) (hop : o.op = Op.range t m) (k e : TypeId) (K : Keyed P k) (ht : P.underlying t = some (.map k e)) (R : Value → Option (DataW H × List MemPlace)) (b n : Nat) (D : DataW H)
    (hm : a.eval m = .map (some b)) (hown : w.ownsMap P k R b n D) (r : Nat) (hr : w.heap.size = r)
    (hK : ∀ w', w'.ranges P k R b r n D (Maps.has D) (Maps.size D) → w.grownBy w' none → w'.heap.size = r + 1 → wpList P ops Q rest (a.put o.dst (.pointer (some ⟨r, 0, none⟩))) w') :
    wpList P ops Q (o :: rest) a w := by
  subst hr
  exact wpList_range_own w hg m t hop k e K ht R b n D hm hown hK
theorem cells5 {w : World} {g t : Nat} {v0 v1 v2 v3 v4 : Value} (h : w.heap[g]? = some (.cells #[v0, v1, v2, v3, v4] t (0, 0))) : w.cell? ⟨g, 0, none⟩ = some v0 ∧ w.cell? ⟨g, 1, none⟩ = some v1 ∧ w.cell? ⟨g, 2, none⟩ = some v2 ∧ w.cell? ⟨g, 3, none⟩ = some v3 ∧ w.cell? ⟨g, 4, none⟩ = some v4 ∧ w.frozen? ⟨g, 4, none⟩ = false :=
  ⟨Go.cell_of_row w g 0 _ _ _ h, Go.cell_of_row w g 1 _ _ _ h, Go.cell_of_row w g 2 _ _ _ h, Go.cell_of_row w g 3 _ _ _ h, Go.cell_of_row w g 4 _ _ _ h, by rw [World.frozen?, h]; rfl⟩
theorem cells2 {w : World} {g t : Nat} {v0 v1 : Value} (h : w.heap[g]? = some (.cells #[v0, v1] t (0, 0))) : w.cell? ⟨g, 0, none⟩ = some v0 ∧ w.cell? ⟨g, 1, none⟩ = some v1 :=
  ⟨Go.cell_of_row w g 0 _ _ _ h, Go.cell_of_row w g 1 _ _ _ h⟩
/-- the constants laid down as a step -/
theorem csAt_own {w : World} {b M e L cA : Nat} {A : Option Addr} {g : Nat → Int} {S : PS} (h : Z.Own .i64 w e 2 A L cA g) (hn : S.n = L) (hc : S.cs = g) (hL : L ≤ 1000000) (ho : ∀ q, e ≤ q → q < w.heap.size → Out w b M q) : CsAt w b M A S := by
  subst hn hc
  refine ⟨hL, h.1, fun hp => ?_⟩
  rcases h.2.2 with ⟨hv, h0⟩ | ⟨q, cap, cur, hv, hb, hh, hnc, hm, hs, ht⟩
  · omega
  · injection hv with h1 h2 h3
    subst h1
    refine ⟨q, cur, _, rfl, hh, ho q hb (Array.getElem?_eq_some_iff.1 hh).1, fun j hj => ?_⟩
    rw [← Array.getElem?_toList, ← List.getElem?_take_of_lt (show j < S.n * 1 by omega), ht, List.getElem?_map, List.getElem?_range hj]
    rfl

theorem ZOwn.set {k : IntKind} {w : World} {base e n c g : Nat} {f : Nat → Int} (h : Z.Own k w base e (some ⟨g, 0, none⟩) n c f) {j : Nat} (hj : j < n) (x : Int) :
    Z.Own k (w.setCell ⟨g, j, none⟩ (.int k (x : Int))) base e (some ⟨g, 0, none⟩) n c (fun i => if i = j then x else f i) := by
  have hx : ∀ i, n ≤ i → (if i = j then x else f i) = 0 := fun i hi => by rw [if_neg (by omega)]; exact h.1 i hi
  rcases h.2.2 with ⟨hv, _⟩ | ⟨g', cap, cur, hv, hb, hh, hnc, hm, hs, ht⟩
  · cases hv
  · injection hv with h1 h2 h3
    injection h1 with h1
    injection h1 with h1
    subst h1 h3
    refine ⟨hx, by simp, .inr ⟨g, c, cur.setIfInBounds j (.int k (x : Int)), rfl, hb, ?_, hnc, hm, by simpa using hs, ?_⟩⟩
    · simp [World.setCell, Array.getElem?_modify, hh]
    · apply List.ext_getElem?
      intro i
      by_cases hi : i < n
      · have e1 : cur.toList[i]? = (cur.toList.take (n * 1))[i]? := by rw [List.getElem?_take_of_lt (by omega)]
        rw [List.getElem?_take_of_lt (by omega), Array.getElem?_toList, Array.getElem?_setIfInBounds, List.getElem?_map, List.getElem?_range hi]
        by_cases hij : i = j
        · subst hij
          simp [Z.ku]
          omega
        · rw [if_neg (fun h => hij h.symm), ← Array.getElem?_toList, e1, ht]
          simp [hi, Z.ku, hij]
      · rw [List.getElem?_eq_none (by simp; omega), List.getElem?_eq_none (by simp; omega)]

theorem ranges_block {w w' : World} {e b r n cnt : Nat} {D : DataW Nat} {left : Lit → Bool} (h : w.ranges Try.prog 3 (plainElem Try.prog e) b r n D left cnt) (hb : w'.heap[b]? = w.heap[b]?) (hr : w'.heap[r]? = w.heap[r]?) : w'.ranges Try.prog 3 (plainElem Try.prog e) b r n D left cnt := by
  obtain ⟨es, clock, since, seen, c0, h1, h2, h3, h4, h5, h6⟩ := h
  exact ⟨es, clock, since, seen, c0, hb.trans h1, h2, h3, h4, hr.trans h5, h6⟩
theorem gF_next {f : Nat → Option Int} {left : Lit → Bool} {X : Nat} {c : Int} (hf : f X = some c) (j : Nat) : gF f (fun z => left z && !z.sameKey (.int .i64 (X : Int))) j = if j = X then c else gF f left j := by
  unfold gF
  by_cases hj : j = X
  · subst hj
    have h1 : (Lit.int IntKind.i64 (j : Int)).sameKey (Lit.int .i64 (j : Int)) = true := WideAt.sameKey_self trivial
    simp only [h1]
    rw [hf]
    simp
  · have h1 : (Lit.int IntKind.i64 (j : Int)).sameKey (Lit.int .i64 (X : Int)) = false := Maps.sameKey_ne (fun e => hj (by injection e; omega))
    simp only [h1]
    rw [if_neg hj]
    simp
/-- what an entry is -/
theorem entry_of {D : DataW Nat} {f : Nat → Option Int} (hf : ∀ x : Int, (0 ≤ x → Maps.has D (.int .i64 x) = (f x.toNat).isSome ∧ ∀ c, f x.toNat = some c → ∀ z, D.atKey (.int .i64 x) z = .lit (.int .i64 c)) ∧ (x < 0 → Maps.has D (.int .i64 x) = false))
    {x c : Int} (hat : ∀ zd, D.atKey (.int .i64 x) zd = .lit (.int .i64 c)) : ∃ X : Nat, x = (X : Int) ∧ f X = some c := by
  have hh := Maps.has_true_of_atKey hat
  rcases Int.lt_or_le x 0 with h0 | h0
  · rw [(hf x).2 h0] at hh; cases hh
  · refine ⟨x.toNat, by omega, ?_⟩
    obtain ⟨h1, h2⟩ := (hf x).1 h0
    rw [hh] at h1
    obtain ⟨c', hc'⟩ := Option.isSome_iff_exists.1 h1.symm
    have := h2 c' hc' (.lit (.int .i64 0))
    rw [hat] at this
    rw [hc', lit_inj this]

theorem e64m : ElemOf Try.prog 23 2 .i64 8 := ⟨Try.underlying23, by kernel_rfl⟩
/-- a nought is appended to the constants -/
theorem rl_append {w wr w3 : World} {n P N cnt L cA cA3 : Nat} {D : DataW Nat} {f : Nat → Option Int} {first : Int} {left : Lit → Bool} {g : Nat → Int} {A A3 : Option Addr}
    (hrg : wr.ranges Try.prog 3 (plainElem Try.prog 2) P (w.heap.size + 2) N D left cnt) (hbx : wr.heap[w.heap.size]? = some (.cells #[.int .i64 first, .map (some P)] 65 (0, 0))) (hbl : Below w.heap.size w wr) (hP : P < w.heap.size)
    (hout : wr.heap[w.heap.size + 1]? = some (.cells #[.bool false, .int .i64 0, .int .i64 0, .int .i64 first, .slice A L cA] 37 (0, 0))) (hb3 : Below (w.heap.size + 3) wr w3) (hz : w.heap.size + 3 ≤ wr.heap.size)
    (hown : Z.Own .i64 w3 (w.heap.size + 3) 2 A3 (L + 1) cA3 g) (hL : L ≤ n) : RL w (w3.setCell ⟨w.heap.size + 1, 4, none⟩ (.slice A3 (L + 1) cA3)) n D f first P N left cnt g := by
  have hs : ∀ q, q < w.heap.size + 3 → q ≠ w.heap.size + 1 → (w3.setCell ⟨w.heap.size + 1, 4, none⟩ (.slice A3 (L + 1) cA3)).heap[q]? = wr.heap[q]? := fun q h1 h2 => (Below.heap_setCell _ _ _ _ h2).trans (hb3.block q h1)
  refine ⟨ranges_block hrg (hs P (by omega) (by omega)) (hs _ (by omega) (by omega)), (hs _ (by omega) (by omega)).trans hbx, (hbl.trans (hb3.mono (by omega))).setCell (by show w.heap.size ≤ w.heap.size + 1; omega) _, A3, L + 1, cA3, ?_, ?_, by omega⟩
  · exact Go.heap_setCell_same w3 (w.heap.size + 1) 4 _ _ _ ((hb3.block _ (by omega)).trans hout)
  · exact hown.of_block fun q hq _ _ => Below.heap_setCell _ _ _ _ (by show q ≠ w.heap.size + 1; omega)
/-- a constant is laid down -/
theorem rl_store {w wr : World} {n P N cnt L cA gA X : Nat} {D : DataW Nat} {f : Nat → Option Int} {first c : Int} {left : Lit → Bool} {g g' : Nat → Int}
    (hrg : wr.ranges Try.prog 3 (plainElem Try.prog 2) P (w.heap.size + 2) N D left cnt) (hbx : wr.heap[w.heap.size]? = some (.cells #[.int .i64 first, .map (some P)] 65 (0, 0))) (hbl : Below w.heap.size w wr) (hP : P < w.heap.size)
    (hout : wr.heap[w.heap.size + 1]? = some (.cells #[.bool false, .int .i64 0, .int .i64 0, .int .i64 first, .slice (some ⟨gA, 0, none⟩) L cA] 37 (0, 0))) (hgA : w.heap.size + 3 ≤ gA)
    (hown : Z.Own .i64 wr (w.heap.size + 3) 2 (some ⟨gA, 0, none⟩) L cA g) (hX : X < L) (hL : L ≤ n + 1) (hg : ∀ j, g' j = if j = X then c else g j) : RL w (wr.setCell ⟨gA, X, none⟩ (.int .i64 c)) n D f first P N left cnt g' := by
  have hs : ∀ q, q < w.heap.size + 3 → (wr.setCell ⟨gA, X, none⟩ (.int .i64 c)).heap[q]? = wr.heap[q]? := fun q h1 => Below.heap_setCell _ _ _ _ (by show q ≠ gA; omega)
  exact ⟨ranges_block hrg (hs P (by omega)) (hs _ (by omega)), (hs _ (by omega)).trans hbx, hbl.setCell (by show w.heap.size ≤ gA; omega) _, some ⟨gA, 0, none⟩, L, cA, (hs _ (by omega)).trans hout, (ZOwn.set hown hX c).congr fun j => (hg j).symm, hL⟩

set_option maxRecDepth 100000 in
set_option maxHeartbeats 4000000 in
theorem mregister_any (t b M P N : Nat) (first : Int) (f : Nat → Option Int) (σ : MSt) (w : World) (h : MK w t b M σ) (hm : IMap w 2 P N f) (hP : Out w b M P) (hf : ∀ j, f j ≠ none → j ≤ σ.n) (hn : σ.n ≤ 900000) (hN : N ≤ 2000000) :
    Calls Try.prog 43 #[.pointer (some ⟨b, 0, none⟩), .agg #[.int .i64 first, .map (some P)]] w (RetMk w t b M fun σ' r => RegR σ first f σ' r) := by
  obtain ⟨D, hD, hDs, hDf⟩ := hm
  have HDF := Lib.hid hDf
  have HIM : Hid (IMap w 2 P N f) := Lib.hid ⟨D, hD, hDs, hDf⟩
  have HDS := Lib.hid hDs
  have H := Lib.hid h
  have HO := Lib.hid hP
  have HFN := Lib.hid hf
  have hPl := hP.1
  have hD2 : ((w.alloc (.cells #[.int .i64 first, .map (some P)] 65)).alloc (.cells #[.bool false, .int .i64 0, .int .i64 0, .int .i64 first, .slice none 0 0] 37)).ownsMap Try.prog 3 (plainElem Try.prog 2) P N D := (hD.alloc _).alloc _
  have HD2 := Lib.hid hD2
  clear h hP hf hD2 hDs hDf hD
  go_enter Try.func43, Try.ntmps43
  go_wp2_with (at_range; refine wpl_rng rfl _ _ rfl 3 2 keyI Try.underlying63 _ P N D rfl HD2.out (w.heap.size + 2) (by simp) ?_; intro w0 hrg0 hg0 hs0)
  have hst : RL w w0 σ.n D f first P N (Maps.has D) (Maps.size D) (gF f (Maps.has D)) := by
    have hW : ((w.alloc (.cells #[.int .i64 first, .map (some P)] 65)).alloc (.cells #[.bool false, .int .i64 0, .int .i64 0, .int .i64 first, .slice none 0 0] 37)).heap.size = w.heap.size + 2 := by rw [World.size_alloc, World.size_alloc]
    have hb0 : Below w.heap.size w w0 := (((Below.refl _ w).alloc (Nat.le_refl _) _).alloc (by rw [World.size_alloc]; omega) _).grown hg0 (by rw [hW]; omega) (fun k hk => by cases hk)
    refine ⟨hrg0, ?_, hb0, none, 0, 0, ?_, ?_, Nat.zero_le _⟩
    · rw [hg0.block w.heap.size (by rw [hW]; omega) (by simp), Below.heap_alloc _ _ _ (by rw [World.size_alloc]; omega)]
      exact heap_alloc_new w _
    · rw [hg0.block (w.heap.size + 1) (by rw [hW]; omega) (by simp)]
      have := heap_alloc_new (w.alloc (.cells #[.int .i64 first, .map (some P)] 65)) (.cells #[.bool false, .int .i64 0, .int .i64 0, .int .i64 first, .slice none 0 0] 37 (0, 0))
      rw [World.size_alloc] at this
      exact this
    · refine (Z.Own.nil .i64 w0 _ _).congr fun j => ?_
      unfold gF
      have := ((HDF.out (j : Int)).1 (by omega)).1
      simp only [Int.toNat_natCast] at this
      rw [this]
      cases hfj : f j <;> simp
  have HST := Lib.hid hst
  clear hst hrg0 hg0
  go_frame
  go_loopw [6] (fun _ wr => ∃ (left : Lit → Bool) (cnt : Nat), RL w wr σ.n D f first P N left cnt (gF f left)) (fun _ wr => wr.rangeLeft P (w.heap.size + 2))
  case atStart => exact ⟨_, _, HST.out⟩
  case round =>
    clear HST
    obtain ⟨left, cnt, hrg, hbx, hbl, A, L, cA, hout, hown, hL⟩ := hrel
    have hzr := hbl.size
    obtain ⟨x0, x1⟩ := cells2 hbx
    obtain ⟨k0, k1, k2, k3, k4, kf4⟩ := cells5 hout
    have HRG := Lib.hid hrg
    have HBX := Lib.hid hbx
    have HBL := Lib.hid hbl
    have HOUT := Lib.hid hout
    have HOWN := Lib.hid hown
    clear hrg hbx hbl hout hown
    go_wp2_with (at_next; refine wpList_next_ranges_ii _ rfl _ rfl 3 2 .i64 .i64 keyI Try.underlying3 Try.underlying2 P (w.heap.size + 2) N _ _ _ rfl HRG.out ?_ ?_)
    · intro _ hl0
      have HST := Lib.hid (mstep_any t b M σ ⟨false, 0, 0, first, L, gF f left⟩ A cA wr (H.out.below HBL.out) (csAt_own HOWN.out rfl rfl (by omega) fun q h1 h2 => H.out.new HBL.out (by omega) h2) (by omega))
      have HL0 : Hid (∀ j, gF f left j = (f j).getD 0) := Lib.hid fun j => by unfold gF; rw [hl0]; rfl
      clear hl0
      go_wp2_with fail
      refine HST.out.mono ?_
      rintro e w2 ⟨σ2, r2, ⟨rfl, rfl⟩, rfl, hm2, hk2⟩
      have HM2 := Lib.hid hm2
      have HK2 := Lib.hid hk2
      clear hm2 hk2
      go_wp2
      go_ret
      exact ⟨_, _, RegR.mk rfl rfl rfl rfl hL HL0.out HOWN.out.1, rfl, HM2.out, (Kp.of_below HBL.out H.out.lt.1).trans HK2.out⟩
    · intro x c w1 cnt1 hwx hwc hlx hat hrg1 hlt hg1 hs1 hen
      obtain ⟨X, rfl, hfX⟩ := entry_of HDF.out hat
      have hXn := HFN.out X (by rw [hfX]; exact fun e => by cases e)
      have HFX := Lib.hid hfX
      have HRG1 := Lib.hid hrg1
      have HRE := Lib.hid HRG.out.left_eq
      have hP2 : P < w.heap.size := hPl
      have hne : ∀ q, q ≠ w.heap.size + 2 → q < wr.heap.size → w1.heap[q]? = wr.heap[q]? := fun q h1 h2 => hg1.block q h2 (fun e => h1 (by injection e))
      have hlts := HRG.out.lt
      have HBX1 := Lib.hid ((hne w.heap.size (by omega) (by omega)).trans HBX.out)
      have HOUT1 := Lib.hid ((hne (w.heap.size + 1) (by omega) (by omega)).trans HOUT.out)
      have HBL1 : Hid (Below w.heap.size w w1) := Lib.hid (HBL.out.grown hg1 (by omega) (fun k hk => by injection hk with hk; omega))
      have HOWN1 : Hid (Z.Own .i64 w1 (w.heap.size + 3) 2 A L cA (gF f left)) := Lib.hid (HOWN.out.grown hg1 fun g hA e => by
        rcases HOWN.out.cases with ⟨h0, _⟩ | ⟨g', h0, h1, _⟩
        · rw [h0] at hA; cases hA
        · rw [h0] at hA
          injection hA with hA
          injection hA with hA
          injection e with e
          omega)
      obtain ⟨x0, x1⟩ := cells2 HBX1.out
      obtain ⟨k0, k1, k2, k3, k4, kf4⟩ := cells5 HOUT1.out
      have hz1 : w.heap.size + 3 ≤ w1.heap.size := by have := HRG1.out.lt; omega
      clear hat hfX hrg1 hlx hg1 hne HRG HBX HOUT HBL HOWN hwx hwc hs1
      by_cases hc0 : c = 0
      · subst hc0
        have HNX : Hid (∀ j, gF f left j = gF f (fun z => left z && !z.sameKey (.int .i64 (X : Int))) j) := Lib.hid fun j => by
          rw [gF_next HFX.out]
          by_cases hj : j = X
          · subst hj
            rw [if_pos rfl]
            unfold gF
            rw [HFX.out]
            simp
          · rw [if_neg hj]
        go_wp2_with go_in
        go_roundw
        case rel => exact ⟨_, cnt1, HRG1.out, HBX1.out, HBL1.out, A, L, cA, HOUT1.out, HOWN1.out.congr HNX.out, hL⟩
        case measure => rw [HRG1.out.left_eq, HRE.out]; omega
      · have hcase : (N = 1 ∧ c = 1 ∧ first = 0) ∨ N ≠ 1 ∨ (N = 1 ∧ c ≠ 1) ∨ (N = 1 ∧ c = 1 ∧ first ≠ 0) := by omega
        have dc0 : (c == 0) = false := by rw [beq_eq_false_iff_ne]; exact hc0
        have HC0 := Lib.hid hc0
        clear hc0
        rcases hcase with ⟨h1, h2, h3⟩ | hcase
        · subst h1 h2 h3
          have HONE : Hid (∀ y, f y ≠ none → y = X) := Lib.hid fun y hy => HIM.out.one hy (by rw [HFX.out]; exact fun e => by cases e)
          go_wp2_with (first | (at_len; refine wpList_len_own _ rfl _ _ rfl 3 2 Try.underlying63 _ P 1 D rfl HRG1.out.owns ?_; rw [HDS.out]) | go_in)
          go_ret
          exact ⟨σ, _, RegR.one HFX.out HONE.out, rfl, H.out.below HBL1.out, Kp.of_below HBL1.out H.out.lt.1⟩
        · rcases hcase with h1 | ⟨h1, h2⟩ | ⟨h1, h2, h3⟩
          · have dn : ((N : Int) == 1) = false := by rw [beq_eq_false_iff_ne]; omega
            have dn2 : decide (N = 1) = false := decide_eq_false h1
            have hh1 := Lib.hid h1
            clear h1
            go_wp2_with (first | (at_len; refine wpList_len_own _ rfl _ _ rfl 3 2 Try.underlying63 _ P N D rfl HRG1.out.owns ?_; rw [HDS.out]) | go_in)
            go_loopw [35] (fun _ wr2 => RL w wr2 σ.n D f first P N (fun z => left z && !z.sameKey (.int .i64 (X : Int))) cnt1 (gF f left)) (fun _ wr2 => X + 1 - sliceLen (wr2.cell? ⟨w.heap.size + 1, 4, none⟩))
            case atStart => exact ⟨HRG1.out, HBX1.out, HBL1.out, A, L, cA, HOUT1.out, HOWN1.out, hL⟩
            case round =>
              obtain ⟨hrg2, hbx2, hbl2, A2, L2, cA2, hout2, hown2, hL2⟩ := hrel
              have HRG2 := Lib.hid hrg2
              have HBX2 := Lib.hid hbx2
              have HBL2 := Lib.hid hbl2
              have HOUT2 := Lib.hid hout2
              have HOWN2 := Lib.hid hown2
              obtain ⟨p0, p1, p2, p3, p4, pf4⟩ := cells5 hout2
              have hz2 := hrg2.lt
              clear hrg2 hbx2 hbl2 hout2 hown2 HRG1 HBX1 HBL1 HOUT1 HOWN1 x0 x1 k0 k1 k2 k3 k4 kf4
              by_cases hLX : L2 ≤ X
              · have d1 : decide ((L2 : Int) ≤ (X : Int)) = true := decide_eq_true (by omega)
                have HV0 : Hid (Value.int .i64 0 = .int .i64 (0 : Int)) := Lib.hid rfl
                have HG0 : Hid (∀ j, gF f left (L2 + j) = Z.oneF 0 j) := Lib.hid fun j => by rw [HOWN2.out.1 _ (by omega)]; unfold Z.oneF; split <;> rfl
                have T1 := Lib.hid (HOWN2.out.alloc (.cells #[.int .i64 0] 2))
                have t2 : Z.Sq .i64 (wr.alloc (.cells #[.int .i64 0] 2)) 0 (wr.heap.size + 1) (some ⟨wr.heap.size, 0, none⟩) 1 (Z.oneF 0) := Z.sq_one (x := 0) (lo := 0) HV0.out (Nat.zero_le _) (Nat.lt_succ_self _)
                have T2 := Lib.hid t2
                have C1 : Hid (L2 + 1 ≤ maxLen) := Lib.hid (by unfold maxLen; omega)
                have C2 : Hid ((L2 + 1) * 8 ≤ 140737488355328) := Lib.hid (by omega)
                have C3 : Hid (w.heap.size + 3 ≤ (wr.alloc (.cells #[.int .i64 0] 2)).heap.size) := Lib.hid (by rw [World.size_alloc]; omega)
                have HBA : Hid (Below (w.heap.size + 3) wr (wr.alloc (.cells #[.int .i64 0] 2))) := Lib.hid ((Below.refl (w.heap.size + 3) wr).alloc (by omega) _)
                clear t2
                go_wp2_with (at_builtin; refine Z.wpl_append rfl _ _ _ rfl e64m rfl T1.out rfl T2.out (gF f left) (fun j _ => rfl) HG0.out C1.out C2.out C3.out ?_; intro A3 cA3 w3 hown3 hg3 hb3 hat3; have HB3 := Lib.hid (HBA.out.trans hb3); have p4' : w3.cell? ⟨w.heap.size + 1, 4, none⟩ = some (.slice A2 L2 cA2) := (HB3.out.cell (p := ⟨w.heap.size + 1, 4, none⟩) (by show w.heap.size + 1 < w.heap.size + 3; omega)).trans p4; have pf4' : w3.frozen? ⟨w.heap.size + 1, 4, none⟩ = false := (HB3.out.frozen (p := ⟨w.heap.size + 1, 4, none⟩) (by show w.heap.size + 1 < w.heap.size + 3; omega)).trans pf4; have HRL3 := Lib.hid (rl_append (n := σ.n) (f := f) HRG2.out HBX2.out HBL2.out hPl HOUT2.out HB3.out (by omega) hown3 (by omega)); clear hown3 hg3 hb3 hat3)
                go_roundw
                case rel => exact HRL3.out
                case measure =>
                  have e4 := (cells5 (Go.heap_setCell_same w3 (w.heap.size + 1) 4 _ _ (.slice A3 (L2 + 1) cA3) ((HB3.out.block (w.heap.size + 1) (by omega)).trans HOUT2.out))).2.2.2.2.1
                  rw [p4]
                  have e5 : (w3.setCell ⟨w.heap.size + 1, 4, none⟩ (.slice A3 (L2 + 1) cA3)).cell? ⟨w.heap.size + 1, 4, none⟩ = some (.slice A3 (L2 + 1) cA3) := e4
                  rw [e5]
                  simp only [sliceLen]
                  omega
              · have d1 : decide ((L2 : Int) ≤ (X : Int)) = false := decide_eq_false (by omega)
                have d2 : (X : Int) < (L2 : Int) := by omega
                have d3 : 0 ≤ (X : Int) := by omega
                rcases HOWN2.out.cases with ⟨_, h0, _⟩ | ⟨gA, rfl, hgA, hgl, hnc, _, hcell, hfr⟩
                · omega
                · have kx := hcell X (by omega)
                  simp only [Z.ku] at kx
                  have kfx := hfr X
                  have HRL5 := Lib.hid (rl_store (n := σ.n) (f := f) (c := c) (X := X) HRG2.out HBX2.out HBL2.out hPl HOUT2.out hgA HOWN2.out (by omega) hL2 (gF_next HFX.out))
                  clear hcell hfr
                  go_wp2
                  go_roundw
                  case rel => exact ⟨_, cnt1, HRL5.out⟩
                  case measure =>
                    rw [HRL5.out.1.left_eq, HRE.out]
                    omega
          · have dn : ((N : Int) == 1) = true := by rw [h1]; rfl
            have dn2 : (c == 1) = false := by rw [beq_eq_false_iff_ne]; exact h2
            clear h1 h2
            go_wp2_with (first | (at_len; refine wpList_len_own _ rfl _ _ rfl 3 2 Try.underlying63 _ P N D rfl HRG1.out.owns ?_; rw [HDS.out]) | go_in)
            go_loopw [35] (fun _ wr2 => RL w wr2 σ.n D f first P N (fun z => left z && !z.sameKey (.int .i64 (X : Int))) cnt1 (gF f left)) (fun _ wr2 => X + 1 - sliceLen (wr2.cell? ⟨w.heap.size + 1, 4, none⟩))
            case atStart => exact ⟨HRG1.out, HBX1.out, HBL1.out, A, L, cA, HOUT1.out, HOWN1.out, hL⟩
            case round =>
              obtain ⟨hrg2, hbx2, hbl2, A2, L2, cA2, hout2, hown2, hL2⟩ := hrel
              have HRG2 := Lib.hid hrg2
              have HBX2 := Lib.hid hbx2
              have HBL2 := Lib.hid hbl2
              have HOUT2 := Lib.hid hout2
              have HOWN2 := Lib.hid hown2
              obtain ⟨p0, p1, p2, p3, p4, pf4⟩ := cells5 hout2
              have hz2 := hrg2.lt
              clear hrg2 hbx2 hbl2 hout2 hown2 HRG1 HBX1 HBL1 HOUT1 HOWN1 x0 x1 k0 k1 k2 k3 k4 kf4
              by_cases hLX : L2 ≤ X
              · have d1 : decide ((L2 : Int) ≤ (X : Int)) = true := decide_eq_true (by omega)
                have HV0 : Hid (Value.int .i64 0 = .int .i64 (0 : Int)) := Lib.hid rfl
                have HG0 : Hid (∀ j, gF f left (L2 + j) = Z.oneF 0 j) := Lib.hid fun j => by rw [HOWN2.out.1 _ (by omega)]; unfold Z.oneF; split <;> rfl
                have T1 := Lib.hid (HOWN2.out.alloc (.cells #[.int .i64 0] 2))
                have t2 : Z.Sq .i64 (wr.alloc (.cells #[.int .i64 0] 2)) 0 (wr.heap.size + 1) (some ⟨wr.heap.size, 0, none⟩) 1 (Z.oneF 0) := Z.sq_one (x := 0) (lo := 0) HV0.out (Nat.zero_le _) (Nat.lt_succ_self _)
                have T2 := Lib.hid t2
                have C1 : Hid (L2 + 1 ≤ maxLen) := Lib.hid (by unfold maxLen; omega)
                have C2 : Hid ((L2 + 1) * 8 ≤ 140737488355328) := Lib.hid (by omega)
                have C3 : Hid (w.heap.size + 3 ≤ (wr.alloc (.cells #[.int .i64 0] 2)).heap.size) := Lib.hid (by rw [World.size_alloc]; omega)
                have HBA : Hid (Below (w.heap.size + 3) wr (wr.alloc (.cells #[.int .i64 0] 2))) := Lib.hid ((Below.refl (w.heap.size + 3) wr).alloc (by omega) _)
                clear t2
                go_wp2_with (at_builtin; refine Z.wpl_append rfl _ _ _ rfl e64m rfl T1.out rfl T2.out (gF f left) (fun j _ => rfl) HG0.out C1.out C2.out C3.out ?_; intro A3 cA3 w3 hown3 hg3 hb3 hat3; have HB3 := Lib.hid (HBA.out.trans hb3); have p4' : w3.cell? ⟨w.heap.size + 1, 4, none⟩ = some (.slice A2 L2 cA2) := (HB3.out.cell (p := ⟨w.heap.size + 1, 4, none⟩) (by show w.heap.size + 1 < w.heap.size + 3; omega)).trans p4; have pf4' : w3.frozen? ⟨w.heap.size + 1, 4, none⟩ = false := (HB3.out.frozen (p := ⟨w.heap.size + 1, 4, none⟩) (by show w.heap.size + 1 < w.heap.size + 3; omega)).trans pf4; have HRL3 := Lib.hid (rl_append (n := σ.n) (f := f) HRG2.out HBX2.out HBL2.out hPl HOUT2.out HB3.out (by omega) hown3 (by omega)); clear hown3 hg3 hb3 hat3)
                go_roundw
                case rel => exact HRL3.out
                case measure =>
                  have e4 := (cells5 (Go.heap_setCell_same w3 (w.heap.size + 1) 4 _ _ (.slice A3 (L2 + 1) cA3) ((HB3.out.block (w.heap.size + 1) (by omega)).trans HOUT2.out))).2.2.2.2.1
                  rw [p4]
                  have e5 : (w3.setCell ⟨w.heap.size + 1, 4, none⟩ (.slice A3 (L2 + 1) cA3)).cell? ⟨w.heap.size + 1, 4, none⟩ = some (.slice A3 (L2 + 1) cA3) := e4
                  rw [e5]
                  simp only [sliceLen]
                  omega
              · have d1 : decide ((L2 : Int) ≤ (X : Int)) = false := decide_eq_false (by omega)
                have d2 : (X : Int) < (L2 : Int) := by omega
                have d3 : 0 ≤ (X : Int) := by omega
                rcases HOWN2.out.cases with ⟨_, h0, _⟩ | ⟨gA, rfl, hgA, hgl, hnc, _, hcell, hfr⟩
                · omega
                · have kx := hcell X (by omega)
                  simp only [Z.ku] at kx
                  have kfx := hfr X
                  have HRL5 := Lib.hid (rl_store (n := σ.n) (f := f) (c := c) (X := X) HRG2.out HBX2.out HBL2.out hPl HOUT2.out hgA HOWN2.out (by omega) hL2 (gF_next HFX.out))
                  clear hcell hfr
                  go_wp2
                  go_roundw
                  case rel => exact ⟨_, cnt1, HRL5.out⟩
                  case measure =>
                    rw [HRL5.out.1.left_eq, HRE.out]
                    omega
          · have dn : ((N : Int) == 1) = true := by rw [h1]; rfl
            have dn2 : (c == 1) = true := by rw [h2]; rfl
            have dn3 : (first == 0) = false := by rw [beq_eq_false_iff_ne]; exact h3
            clear h1 h2 h3
            go_wp2_with (first | (at_len; refine wpList_len_own _ rfl _ _ rfl 3 2 Try.underlying63 _ P N D rfl HRG1.out.owns ?_; rw [HDS.out]) | go_in)
            go_loopw [35] (fun _ wr2 => RL w wr2 σ.n D f first P N (fun z => left z && !z.sameKey (.int .i64 (X : Int))) cnt1 (gF f left)) (fun _ wr2 => X + 1 - sliceLen (wr2.cell? ⟨w.heap.size + 1, 4, none⟩))
            case atStart => exact ⟨HRG1.out, HBX1.out, HBL1.out, A, L, cA, HOUT1.out, HOWN1.out, hL⟩
            case round =>
              obtain ⟨hrg2, hbx2, hbl2, A2, L2, cA2, hout2, hown2, hL2⟩ := hrel
              have HRG2 := Lib.hid hrg2
              have HBX2 := Lib.hid hbx2
              have HBL2 := Lib.hid hbl2
              have HOUT2 := Lib.hid hout2
              have HOWN2 := Lib.hid hown2
              obtain ⟨p0, p1, p2, p3, p4, pf4⟩ := cells5 hout2
              have hz2 := hrg2.lt
              clear hrg2 hbx2 hbl2 hout2 hown2 HRG1 HBX1 HBL1 HOUT1 HOWN1 x0 x1 k0 k1 k2 k3 k4 kf4
              by_cases hLX : L2 ≤ X
              · have d1 : decide ((L2 : Int) ≤ (X : Int)) = true := decide_eq_true (by omega)
                have HV0 : Hid (Value.int .i64 0 = .int .i64 (0 : Int)) := Lib.hid rfl
                have HG0 : Hid (∀ j, gF f left (L2 + j) = Z.oneF 0 j) := Lib.hid fun j => by rw [HOWN2.out.1 _ (by omega)]; unfold Z.oneF; split <;> rfl
                have T1 := Lib.hid (HOWN2.out.alloc (.cells #[.int .i64 0] 2))
                have t2 : Z.Sq .i64 (wr.alloc (.cells #[.int .i64 0] 2)) 0 (wr.heap.size + 1) (some ⟨wr.heap.size, 0, none⟩) 1 (Z.oneF 0) := Z.sq_one (x := 0) (lo := 0) HV0.out (Nat.zero_le _) (Nat.lt_succ_self _)
                have T2 := Lib.hid t2
                have C1 : Hid (L2 + 1 ≤ maxLen) := Lib.hid (by unfold maxLen; omega)
                have C2 : Hid ((L2 + 1) * 8 ≤ 140737488355328) := Lib.hid (by omega)
                have C3 : Hid (w.heap.size + 3 ≤ (wr.alloc (.cells #[.int .i64 0] 2)).heap.size) := Lib.hid (by rw [World.size_alloc]; omega)
                have HBA : Hid (Below (w.heap.size + 3) wr (wr.alloc (.cells #[.int .i64 0] 2))) := Lib.hid ((Below.refl (w.heap.size + 3) wr).alloc (by omega) _)
                clear t2
                go_wp2_with (at_builtin; refine Z.wpl_append rfl _ _ _ rfl e64m rfl T1.out rfl T2.out (gF f left) (fun j _ => rfl) HG0.out C1.out C2.out C3.out ?_; intro A3 cA3 w3 hown3 hg3 hb3 hat3; have HB3 := Lib.hid (HBA.out.trans hb3); have p4' : w3.cell? ⟨w.heap.size + 1, 4, none⟩ = some (.slice A2 L2 cA2) := (HB3.out.cell (p := ⟨w.heap.size + 1, 4, none⟩) (by show w.heap.size + 1 < w.heap.size + 3; omega)).trans p4; have pf4' : w3.frozen? ⟨w.heap.size + 1, 4, none⟩ = false := (HB3.out.frozen (p := ⟨w.heap.size + 1, 4, none⟩) (by show w.heap.size + 1 < w.heap.size + 3; omega)).trans pf4; have HRL3 := Lib.hid (rl_append (n := σ.n) (f := f) HRG2.out HBX2.out HBL2.out hPl HOUT2.out HB3.out (by omega) hown3 (by omega)); clear hown3 hg3 hb3 hat3)
                go_roundw
                case rel => exact HRL3.out
                case measure =>
                  have e4 := (cells5 (Go.heap_setCell_same w3 (w.heap.size + 1) 4 _ _ (.slice A3 (L2 + 1) cA3) ((HB3.out.block (w.heap.size + 1) (by omega)).trans HOUT2.out))).2.2.2.2.1
                  rw [p4]
                  have e5 : (w3.setCell ⟨w.heap.size + 1, 4, none⟩ (.slice A3 (L2 + 1) cA3)).cell? ⟨w.heap.size + 1, 4, none⟩ = some (.slice A3 (L2 + 1) cA3) := e4
                  rw [e5]
                  simp only [sliceLen]
                  omega
              · have d1 : decide ((L2 : Int) ≤ (X : Int)) = false := decide_eq_false (by omega)
                have d2 : (X : Int) < (L2 : Int) := by omega
                have d3 : 0 ≤ (X : Int) := by omega
                rcases HOWN2.out.cases with ⟨_, h0, _⟩ | ⟨gA, rfl, hgA, hgl, hnc, _, hcell, hfr⟩
                · omega
                · have kx := hcell X (by omega)
                  simp only [Z.ku] at kx
                  have kfx := hfr X
                  have HRL5 := Lib.hid (rl_store (n := σ.n) (f := f) (c := c) (X := X) HRG2.out HBX2.out HBL2.out hPl HOUT2.out hgA HOWN2.out (by omega) hL2 (gF_next HFX.out))
                  clear hcell hfr
                  go_wp2
                  go_roundw
                  case rel => exact ⟨_, cnt1, HRL5.out⟩
                  case measure =>
                    rw [HRL5.out.1.left_eq, HRE.out]
                    omega
end Go.Proofs.Ytmidpholmgmdpaa
