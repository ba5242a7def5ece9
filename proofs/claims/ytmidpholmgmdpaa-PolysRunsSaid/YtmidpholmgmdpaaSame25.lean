/- The contracts of the comparison of lists, for layer 25. -/
import Derived.Test.YtmidpholmgmdpaaPairs
namespace Go.Proofs.Ytmidpholmgmdpaa
open Go.RowKit
set_option linter.unusedVariables false

def SameP (n : Nat) (a : Nat → Int) (nb : Nat) (b : Nat → Int) : Prop := n = nb ∧ ∀ j, j < n → a j = b j
def RetBB (w : World) (P : Prop) (e : Ending) (w' : World) : Prop := Below w.heap.size w w' ∧ ((P ∧ e = .returned (.bool true)) ∨ (¬ P ∧ e = .returned (.bool false)))
theorem RetBB.yes {w w' : World} {P : Prop} {e : Ending} (h : RetBB w P e w') (hp : P) : RetV w (.bool true) e w' := by
  rcases h.2 with ⟨_, h1⟩ | ⟨h1, _⟩
  · exact ⟨h1, h.1⟩
  · exact absurd hp h1
set_option maxHeartbeats 400000 in
theorem same80_any (n nb ca cb : Nat) (A B : Option Addr) (a b : Nat → Int) (w : World) (lo hi lo2 hi2 : Nat) (ha : Z.Sq .i64 w lo hi A n a) (hb : Z.Sq .i64 w lo2 hi2 B nb b) (hn : n ≤ 1000000) (hnb : nb ≤ 1000000) (hhi : hi ≤ w.heap.size) (hhi2 : hi2 ≤ w.heap.size) :
    Calls Try.prog 34 #[.slice A n ca, .slice B nb cb] w (RetBB w (SameP n a nb b)) := by
  by_cases hl : n = nb
  · subst hl
    have HA := Lib.hid ha
    have HB := Lib.hid hb
    clear ha hb
    go_enter Try.func34, Try.ntmps34
    go_wp2
    go_loopw [5] (fun i wr => ∃ k : Nat, k ≤ n ∧ i = .int .i64 k ∧ (∀ j, j < k → a j = b j) ∧ Below w.heap.size w wr) (fun i _ => n - (intOf i).toNat)
    case atStart => exact ⟨0, Nat.zero_le _, rfl, fun j hj => absurd hj (Nat.not_lt_zero j), Below.refl _ _⟩
    case round =>
      obtain ⟨k, hk, rfl, heq, hbel⟩ := hrel
      have HE := Lib.hid heq
      clear heq
      by_cases hkn : k < n
      · have d1 : decide ((k : Int) < (n : Int)) = true := decide_eq_true (by omega)
        obtain ⟨g, off, hA, _, hg1, hcell⟩ := HA.out.2 (by omega)
        obtain ⟨g2, off2, hB, _, hg2, hcell2⟩ := HB.out.2 (by omega)
        have hc1 := (hbel.cell (p := ⟨g, off + k, none⟩) (by show g < _; omega)).trans (hcell k hkn)
        have hc2 := (hbel.cell (p := ⟨g2, off2 + k, none⟩) (by show g2 < _; omega)).trans (hcell2 k hkn)
        obtain ⟨x, hx⟩ : ∃ x, a k = x := ⟨_, rfl⟩
        obtain ⟨y, hy⟩ : ∃ y, b k = y := ⟨_, rfl⟩
        rw [hx] at hc1
        rw [hy] at hc2
        rw [hA, hB]
        have HX := Lib.hid hx
        have HY := Lib.hid hy
        have hk0 : 0 ≤ (k : Int) := by omega
        have hk1 : (k : Int) < (n : Int) := by omega
        clear hx hy hcell hcell2 hA hB
        by_cases hxy : x = y
        · have e1 : (x != y) = false := by simp [hxy]
          have HXY := Lib.hid hxy
          clear hxy
          go_wp2
          go_quiet (fail)
          go_wp2
          go_roundw
          case rel =>
            refine ⟨k + 1, by omega, by go_num, fun j hj => ?_, below_drewN hbel _⟩
            rcases Nat.lt_or_ge j k with h | h
            · exact HE.out j h
            · rw [show j = k from by omega, HX.out, HY.out, HXY.out]
          case measure => simp only [intOf]; omega
        · have e1 : (x != y) = true := by simp [hxy]
          have HXY := Lib.hid hxy
          clear hxy
          go_wp2
          go_quiet (fail)
          go_wp2
          go_ret
          exact ⟨below_drewN hbel _, .inr ⟨fun h => HXY.out (by rw [← HX.out, ← HY.out]; exact h.2 k hkn), rfl⟩⟩
      · have d1 : decide ((k : Int) < (n : Int)) = false := decide_eq_false (by omega)
        go_wp2
        go_ret
        exact ⟨hbel, .inl ⟨⟨rfl, fun j hj => HE.out j (by omega)⟩, rfl⟩⟩
  · have h1 : ((n : Int) != (nb : Int)) = true := by
      simp only [bne_iff_ne, ne_eq]
      omega
    clear ha hb
    go_enter Try.func34, Try.ntmps34
    go_wp2
    go_ret
    exact ⟨Below.refl _ _, .inr ⟨fun h => hl h.1, rfl⟩⟩

set_option maxHeartbeats 400000 in
set_option maxHeartbeats 400000 in
theorem same25_any (n nb ca cb : Nat) (A B : Option Addr) (a b : Nat → Int) (w : World) (lo hi lo2 hi2 : Nat) (ha : Z.Sq .i64 w lo hi A n a) (hb : Z.Sq .i64 w lo2 hi2 B nb b) (hn : n ≤ 1000000) (hnb : nb ≤ 1000000) (hhi : hi ≤ w.heap.size) (hhi2 : hi2 ≤ w.heap.size) :
    Calls Try.prog 12 #[.slice A n ca, .slice B nb cb] w (RetBB w (SameP n a nb b)) := by
  have HS := Lib.hid (same80_any n nb ca cb A B a b w lo hi lo2 hi2 ha hb hn hnb hhi hhi2)
  clear ha hb
  go_enter Try.func12, Try.ntmps12
  go_wp2_with fail
  refine HS.out.mono ?_
  rintro e w1 ⟨hb1, hh⟩
  rcases hh with ⟨hp, rfl⟩ | ⟨hp, rfl⟩
  · have HP := Lib.hid hp
    clear hp
    go_wp2_with fail
    go_ret
    exact ⟨hb1, .inl ⟨HP.out, rfl⟩⟩
  · have HP := Lib.hid hp
    clear hp
    go_wp2_with fail
    go_ret
    exact ⟨hb1, .inr ⟨HP.out, rfl⟩⟩
end Go.Proofs.Ytmidpholmgmdpaa
