/- The contracts of: same, spoil, power, Trim, lent, kept. -/
import Derived.Test.YtoifjkandmnakaaSmallA
namespace Go.Proofs.Ytoifjkandmnakaa
open Go.RowKit

set_option maxHeartbeats 400000 in
theorem same_any (n nb ca cb : Nat) (A B : Option Addr) (a b : Nat → Nat) (w : World) (lo hi lo2 hi2 : Nat) (ha : Sq .u32 w lo hi A n a) (hb : Sq .u32 w lo2 hi2 B nb b) (hn : n ≤ 1000000) (hnb : nb ≤ 1000000) (hhi : hi ≤ w.heap.size) (hhi2 : hi2 ≤ w.heap.size) :
    Calls Try.prog 22 #[.slice A n ca, .slice B nb cb] w (RetV w (.bool (sameB n a nb b))) := by
  go_enter Try.func22, Try.ntmps22
  go_wp2_with (go_at_call 50; refine (same0_any n nb ca cb A B a b _ _ _ _ _ ha hb hn hnb hhi hhi2).mono ?_; rintro e w' ⟨rfl, hbel⟩)
  go_ret
  exact ⟨rfl, hbel⟩

/-- what spoil leaves: the block b alone is written -/
def RetSpoil (w : World) (b e n c : Nat) (f : Nat → Nat) (en : Ending) (w' : World) : Prop :=
  en = .returned (.tuple #[]) ∧ w'.rowIs b e c (ku .u32 fun j => if j < n then 4294967295 else f j) ∧ w.grownBy w' (some b) ∧ w'.heap.size = w.heap.size

theorem grownBy_setCell {w w' : World} {b i : Nat} {v : Value} (h : w.grownBy w' (some b)) : w.grownBy (w'.setCell ⟨b, i, none⟩ v) (some b) :=
  ⟨h.os, h.tape, h.output, by simpa using h.size, fun k hk hne => (Below.heap_setCell w' ⟨b, i, none⟩ v k (fun e => hne (by rw [e]))).trans (h.block k hk hne)⟩

set_option maxHeartbeats 400000 in
theorem spoil_any (b e n c c2 : Nat) (f : Nat → Nat) (w : World) (hr : w.rowIs b e c (ku .u32 f)) (hnc : n ≤ c) (hn : n ≤ 1000000) :
    Calls Try.prog 20 #[.slice (some ⟨b, 0, none⟩) n c2] w (RetSpoil w b e n c f) := by
  go_enter Try.func20, Try.ntmps20
  go_wp2
  go_loopw [2] (fun i wr => ∃ k : Nat, k ≤ n ∧ i = .int .i64 k ∧ wr.rowIs b e c (ku .u32 fun j => if j < k then 4294967295 else f j) ∧ w.grownBy wr (some b) ∧ wr.heap.size = w.heap.size) (fun i _ => n - (intOf i).toNat)
  case atStart =>
    refine ⟨0, Nat.zero_le _, rfl, hr.congr fun j _ => ?_, World.grownBy.refl _ _, rfl⟩
    simp [ku]
  case round =>
    obtain ⟨k, hk, rfl, hrr, hg, hsz⟩ := hrel
    have HS := Lib.hid hsz
    clear hsz hr
    by_cases hkn : k < n
    · have hc2 := hrr.cell (show k < c by omega)
      simp only [ku, Nat.lt_irrefl, if_false] at hc2
      have hf2 := hrr.frozen k
      have HR := Lib.hid hrr
      clear hrr
      go_wp2
      go_roundw
      case rel =>
        refine ⟨k + 1, by omega, by go_num, ?_, grownBy_setCell hg, by simpa using HS.out⟩
        refine (rowIs_set_ku HR.out k 4294967295).congr fun j _ => ?_
        simp only [ku]
        congr 2
        by_cases h1 : j = k
        · rw [if_pos h1, if_pos (by omega)]
        · rw [if_neg h1]
          by_cases h2 : j < k
          · rw [if_pos h2, if_pos (by omega)]
          · rw [if_neg h2, if_neg (by omega)]
      case measure => simp [intOf]; omega
    · obtain rfl : k = n := by omega
      go_wp2
      go_end0
      exact ⟨rfl, hrr, hg, HS.out⟩

set_option maxHeartbeats 400000 in
theorem power_any (c n : Nat) (w : World) (hn : n ≤ 1000) :
    Calls Try.prog 64 #[.int .u32 c, .int .i64 n] w (RetSl w (n + 1) (fun j => if j = n then c else 0)) := by
  have hn1 : ((n : Int) + 1) = ((n + 1 : Nat) : Int) := by omega
  have HN := Lib.hid hn1
  clear hn1
  go_enter Try.func64, Try.ntmps64
  go_wp2_with (at_make; refine wpl_make rfl _ _ _ rfl e32 .i64 .i64 _ _ (n + 1) rfl rfl HN.out HN.out (by omega) (by unfold maxLen; omega) ?_; intro w1 hr1 hb1 hs1; have hc1 := hr1.cell (show n < n + 1 by omega); simp only [ku] at hc1; have hf1 := hr1.frozen n)
  go_ret
  refine ⟨_, _, rfl, Nat.le_refl _, ?_, hb1.setCell (Nat.le_refl _) _⟩
  refine Sq.of_row (rowIs_set_ku hr1 n c) (Nat.le_refl _) (Nat.le_refl _) (by simpa using hs1) (fun j hj => ?_) fun j hj => rfl
  rw [if_neg (by omega)]
end Go.Proofs.Ytoifjkandmnakaa
