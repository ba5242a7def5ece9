/- The contracts of small functions: the comparison of lists; lent, kept. -/
import Derived.Test.YtbajapjaejpcjaaRet
import Derived.Test.YtbajapjaejpcjaaPlain
namespace Go.Proofs.Ytbajapjaejpcjaa
open Go.RowKit
set_option linter.unusedVariables false

theorem e32 : ElemOf Try.prog 27 22 .u32 4 := ⟨Try.underlying27, by kernel_rfl⟩
set_option maxHeartbeats 400000 in
theorem same0_any (n nb ca cb : Nat) (A B : Option Addr) (a b : Nat → Nat) (w : World) (lo hi lo2 hi2 : Nat) (ha : Sq .u32 w lo hi A n a) (hb : Sq .u32 w lo2 hi2 B nb b) (hn : n ≤ 1000000) (hnb : nb ≤ 1000000) (hhi : hi ≤ w.heap.size) (hhi2 : hi2 ≤ w.heap.size) :
    Calls Try.prog 33 #[.slice A n ca, .slice B nb cb] w (RetV w (.bool (sameB n a nb b))) := by
  by_cases hl : n = nb
  · subst hl
    go_enter Try.func33, Try.ntmps33
    go_wp2
    go_loopw [5] (fun i wr => ∃ k : Nat, k ≤ n ∧ i = .int .i64 k ∧ (∀ j, j < k → a j = b j) ∧ Below w.heap.size w wr) (fun i _ => n - (intOf i).toNat)
    case atStart => exact ⟨0, Nat.zero_le _, rfl, fun j hj => absurd hj (Nat.not_lt_zero j), Below.refl _ _⟩
    case round =>
      obtain ⟨k, hk, rfl, heq, hbel⟩ := hrel
      have HE := Lib.hid heq
      clear heq
      by_cases hkn : k < n
      · obtain ⟨g, off, rfl, _, hg1, hcell⟩ := ha.2 (by omega)
        obtain ⟨g2, off2, rfl, _, hg2, hcell2⟩ := hb.2 (by omega)
        have hc1 := (hbel.cell (p := ⟨g, off + k, none⟩) (by show g < _; omega)).trans (hcell k hkn)
        have hc2 := (hbel.cell (p := ⟨g2, off2 + k, none⟩) (by show g2 < _; omega)).trans (hcell2 k hkn)
        obtain ⟨x, hx⟩ : ∃ x, a k = x := ⟨_, rfl⟩
        obtain ⟨y, hy⟩ : ∃ y, b k = y := ⟨_, rfl⟩
        rw [hx] at hc1
        rw [hy] at hc2
        have HX := Lib.hid hx
        have HY := Lib.hid hy
        clear hx hy hcell hcell2 ha hb
        go_wp2
        go_quiet (fail)
        go_wp2
        · have hne : ((x : Int) != (y : Int)) = true := by assumption
          have hne2 : x ≠ y := by
            intro e
            subst e
            simp at hne
          go_ret
          refine ⟨?_, below_drewN hbel _⟩
          rw [sameB_ne2 hkn (by rw [HX.out, HY.out]; exact hne2)]
          rfl
        · have hne : ((x : Int) != (y : Int)) = false := by assumption
          have hne2 : x = y := by
            have e : (x : Int) = (y : Int) := by simpa using hne
            omega
          go_roundw
          case rel =>
            refine ⟨k + 1, by omega, by go_num, fun j hj => ?_, below_drewN hbel _⟩
            rcases Nat.lt_or_ge j k with h | h
            · exact HE.out j h
            · rw [show j = k from by omega, HX.out, HY.out, hne2]
          case measure => simp [intOf]; omega
      · clear ha hb
        go_wp2
        go_ret
        refine ⟨?_, hbel⟩
        rw [sameB_true.2 ⟨rfl, fun j hj => HE.out j (by omega)⟩]
        rfl
  · rw [sameB_ne1 hl]
    have h1 : ((n : Int) != (nb : Int)) = true := by
      simp only [bne_iff_ne, ne_eq]
      omega
    clear ha hb
    go_enter Try.func33, Try.ntmps33
    go_wp2
    go_ret
    exact ⟨rfl, Below.refl _ _⟩

set_option maxHeartbeats 400000 in
theorem same_any (n nb ca cb : Nat) (A B : Option Addr) (a b : Nat → Nat) (w : World) (lo hi lo2 hi2 : Nat) (ha : Sq .u32 w lo hi A n a) (hb : Sq .u32 w lo2 hi2 B nb b) (hn : n ≤ 1000000) (hnb : nb ≤ 1000000) (hhi : hi ≤ w.heap.size) (hhi2 : hi2 ≤ w.heap.size) :
    Calls Try.prog 19 #[.slice A n ca, .slice B nb cb] w (RetV w (.bool (sameB n a nb b))) := by
  go_enter Try.func19, Try.ntmps19
  go_wp2_with (go_at_call 33; refine (same0_any n nb ca cb A B a b _ _ _ _ _ ha hb hn hnb hhi hhi2).mono ?_; rintro e w' ⟨rfl, hbel⟩)
  go_ret
  exact ⟨rfl, hbel⟩

theorem grownBy_setCell {w w' : World} {b i : Nat} {v : Value} (h : w.grownBy w' (some b)) : w.grownBy (w'.setCell ⟨b, i, none⟩ v) (some b) :=
  ⟨h.os, h.tape, h.output, by simpa using h.size, fun k hk hne => (Below.heap_setCell w' ⟨b, i, none⟩ v k (fun e => hne (by rw [e]))).trans (h.block k hk hne)⟩

/-- what lent leaves: the elements, behind them the mark -/
def lentF (n : Nat) (f : Nat → Nat) : Nat → Nat := fun j => if j < n then f j else if j = n then 4294967295 else 0
theorem lentF_lt {n j : Nat} {f : Nat → Nat} (h : j < n) : lentF n f j = f j := if_pos h
theorem lentF_add {n : Nat} {f : Nat → Nat} (j : Nat) : lentF n f (n + j) = oneF 4294967295 j := by
  unfold lentF oneF
  rw [if_neg (by omega)]
  by_cases h : j = 0
  · rw [if_pos (by omega), if_pos h]
  · rw [if_neg (by omega), if_neg h]
def RetLent (w : World) (n : Nat) (f : Nat → Nat) (e : Ending) (w' : World) : Prop :=
  e = .returned (.slice (some ⟨w.heap.size, 0, none⟩) n (n + 1)) ∧ w'.rowIs w.heap.size 22 (n + 1) (ku .u32 (lentF n f)) ∧ Below w.heap.size w w' ∧ w.heap.size < w'.heap.size

set_option maxHeartbeats 400000 in
theorem lent_any (A : Option Addr) (n c : Nat) (f : Nat → Nat) (w : World) (lo hi : Nat) (h : Sq .u32 w lo hi A n f) (hn : n ≤ 1000000) (hhi : hi ≤ w.heap.size) :
    Calls Try.prog 13 #[.slice A n c] w (RetLent w n f) := by
  have hn1 : ((n : Int) + 1) = ((n + 1 : Nat) : Int) := by omega
  have HN := Lib.hid hn1
  clear hn1
  go_enter Try.func13, Try.ntmps13
  go_wp2_with (first
    | (at_make; refine wpl_make0 rfl _ _ _ rfl e32 .i64 .i64 _ (n + 1) rfl rfl HN.out (by omega) (by unfold maxLen; omega) ?_; intro w1 hown1 hb1; have hs1 : w.heap.size < w1.heap.size := own_lt hown1)
    | (at_builtin; refine wpl_append_fits rfl (.tmp 7) (.tmp 8) _ rfl e32 rfl hown1 rfl (h.below hb1 hhi) f (fun j h => absurd h (Nat.not_lt_zero j)) (fun j => by rw [Nat.zero_add]) (by omega) ?_; intro w2 hown2 hg2; rw [Nat.zero_add] at hown2)
    | (at_builtin; refine wpl_append_fits rfl (.tmp 10) (.tmp 11) _ rfl e32 rfl (hown2.alloc _) rfl (sq_one (x := 4294967295) (lo := w.heap.size) (hi := w2.heap.size + 1) rfl (Nat.le_trans hb1.size hg2.size) (Nat.lt_succ_self _)) (lentF n f) (fun j hj => lentF_lt hj) lentF_add (by omega) ?_; intro w3 hown3 hg3))
  go_ret
  have hb2 := hb1.grown hg2 (Nat.le_of_lt hs1) (fun g hg => by injection hg with hg; omega)
  have hb3 := (hb2.alloc hb2.size (.cells #[.int .u32 4294967295] 22)).grown hg3 (by have := hb2.size; simp; omega) (fun g hg => by injection hg with hg; omega)
  exact ⟨rfl, hown3.row, hb3, by have := hg2.size; have := hg3.size; simp at this; omega⟩

set_option maxHeartbeats 400000 in
theorem kept_any (b n c : Nat) (A : Option Addr) (f : Nat → Nat) (w : World) (lo hi : Nat) (hr : w.rowIs b 22 (n + 1) (ku .u32 (lentF n f))) (h : Sq .u32 w lo hi A n f) (hn : n ≤ 1000000) (hhi : hi ≤ w.heap.size) :
    Calls Try.prog 16 #[.slice (some ⟨b, 0, none⟩) n (n + 1), .slice A n c] w (RetV w (.bool true)) := by
  have hsq : Sq .u32 w 0 w.heap.size (some ⟨b, 0, none⟩) n f := Sq.of_row hr (by omega) (Nat.zero_le _) hr.lt h.1 fun j hj => lentF_lt hj
  have hs := same_any n n (n + 1) c (some ⟨b, 0, none⟩) A f f w 0 w.heap.size lo hi hsq h hn hn (Nat.le_refl _) hhi
  rw [sameB_refl] at hs
  have HS := Lib.hid hs
  have hb := hr.lt
  have hcell : w.cell? ⟨b, n, none⟩ = some (.int .u32 4294967295) := by
    rw [hr.cell (show n < n + 1 by omega)]
    simp [ku, lentF]
  have HC := Lib.hid hcell
  clear hs hsq h hr hcell
  go_enter Try.func16, Try.ntmps16
  go_wp2_with (go_at_call 19; refine HS.out.mono ?_; rintro e w' ⟨rfl, hbel⟩; have hc2 := (hbel.cell (p := ⟨b, n, none⟩) hb).trans HC.out)
  go_ret
  exact ⟨rfl, hbel⟩

end Go.Proofs.Ytbajapjaejpcjaa
