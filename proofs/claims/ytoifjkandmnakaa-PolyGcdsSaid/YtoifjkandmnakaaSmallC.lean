/- The contracts of: the reference's Trim; lent, kept. -/
import Derived.Test.YtoifjkandmnakaaSmallB
namespace Go.Proofs.Ytoifjkandmnakaa
open Go.RowKit

set_option maxHeartbeats 400000 in
theorem rtrim_any (A : Option Addr) (n c : Nat) (f : Nat → Nat) (w : World) (lo hi : Nat) (h : Sq .u32 w lo hi A n f) (hc : n ≤ c) (hn : n ≤ 1000000) :
    Calls Try.prog 26 #[.slice A n c] w (RetSl w (tl f n) f) := by
  have HS := Lib.hid (sq_tl h)
  go_enter Try.func26, Try.ntmps26
  go_wp2
  go_loop [3] (fun t => ∃ k : Nat, k ≤ n ∧ t = .int .i64 k ∧ (∀ j, k ≤ j → j < n → f j = 0)) (fun t => (intOf t).toNat)
  case atStart => exact ⟨n, by omega, rfl, fun j h1 h2 => by omega⟩
  case round =>
    obtain ⟨k, hk, rfl, hz⟩ := hrel
    have HZ := Lib.hid hz
    clear hz
    by_cases hk0 : 0 < k
    · obtain ⟨b, off, rfl, _, _, hcell⟩ := h.2 (by omega)
      have hc1 := hcell (k-1) (by omega)
      obtain ⟨x, hx⟩ : ∃ x, f (k-1) = x := ⟨_, rfl⟩
      rw [hx] at hc1
      have HX := Lib.hid hx
      clear hx hcell h
      have hkz : ((k : Int) - 1).toNat = k - 1 := by omega
      by_cases hx0 : x = 0
      · subst hx0
        go_wp2
        go_round
        case rel =>
          refine ⟨k - 1, by omega, by go_num, fun j h1 h2 => ?_⟩
          rcases Nat.lt_or_ge j k with h | h
          · rw [show j = k - 1 from by omega, HX.out]
          · exact HZ.out j h h2
        case measure => simp [intOf]; omega
      · have hxz : ((x : Int) == 0) = false := by simp; omega
        have hT : tl f n = k := tl_unique hk HZ.out (fun _ => by rw [HX.out]; exact hx0)
        rw [hT] at HS
        have HT := Lib.hid hT
        clear hT
        go_wp2_with (at_builtin; refine wpl_append rfl _ _ _ rfl e32 rfl (Own.nil _ _ w.heap.size _) rfl HS.out f (fun j h => absurd h (Nat.not_lt_zero j)) (fun j => by rw [Nat.zero_add]) (by unfold maxLen; omega) (by omega) (Nat.le_refl _) ?_; intro A1 c1 w1 hown1 hg1 hb1 hat1)
        go_ret
        have hT := HT.out
        exact ⟨_, _, ret_slice (by omega), by have := hown1.le; omega, sq_n (hown1.sq (Nat.le_refl _)) (by omega), hb1⟩
    · obtain rfl : k = 0 := by omega
      have hT : tl f n = 0 := tl_unique hk HZ.out (fun h => absurd h (Nat.lt_irrefl 0))
      rw [hT] at HS
      have HT := Lib.hid hT
      clear hT h
      go_wp2_with (at_builtin; refine wpl_append rfl _ _ _ rfl e32 rfl (Own.nil _ _ w.heap.size _) rfl HS.out f (fun j h => absurd h (Nat.not_lt_zero j)) (fun j => by rw [Nat.zero_add]) (by unfold maxLen; omega) (by omega) (Nat.le_refl _) ?_; intro A1 c1 w1 hown1 hg1 hb1 hat1)
      go_ret
      have hT := HT.out
      exact ⟨_, _, ret_slice (by omega), by have := hown1.le; omega, sq_n (hown1.sq (Nat.le_refl _)) (by omega), hb1⟩

/-- what lent leaves: the elements, behind them the mark -/
def lentF (n : Nat) (f : Nat → Nat) : Nat → Nat := fun j => if j < n then f j else if j = n then 4294967295 else 0
theorem lentF_lt {n j : Nat} {f : Nat → Nat} (h : j < n) : lentF n f j = f j := if_pos h
theorem lentF_add {n : Nat} {f : Nat → Nat} (j : Nat) : lentF n f (n + j) = oneF 4294967295 j := by
  unfold lentF oneF
  rw [if_neg (by omega)]
  by_cases h : j = 0
  · rw [if_pos (by omega), if_pos h]
  · rw [if_neg (by omega), if_neg h]
def RetLent (w : World) (n : Nat) (f : Nat → Nat) (e : Ending) (w' : World) : Prop :=
  e = .returned (.slice (some ⟨w.heap.size, 0, none⟩) n (n + 1)) ∧ w'.rowIs w.heap.size 22 (n + 1) (ku .u32 (lentF n f)) ∧ Below w.heap.size w w' ∧ w.heap.size < w'.heap.size

set_option maxHeartbeats 400000 in
theorem lent_any (A : Option Addr) (n c : Nat) (f : Nat → Nat) (w : World) (lo hi : Nat) (h : Sq .u32 w lo hi A n f) (hn : n ≤ 1000000) (hhi : hi ≤ w.heap.size) :
    Calls Try.prog 17 #[.slice A n c] w (RetLent w n f) := by
  have hn1 : ((n : Int) + 1) = ((n + 1 : Nat) : Int) := by omega
  have HN := Lib.hid hn1
  clear hn1
  go_enter Try.func17, Try.ntmps17
  go_wp2_with (first
    | (at_make; refine wpl_make0 rfl _ _ _ rfl e32 .i64 .i64 _ (n + 1) rfl rfl HN.out (by omega) (by unfold maxLen; omega) ?_; intro w1 hown1 hb1; have hs1 : w.heap.size < w1.heap.size := own_lt hown1)
    | (at_builtin; refine wpl_append_fits rfl (.tmp 7) (.tmp 8) _ rfl e32 rfl hown1 rfl (h.below hb1 hhi) f (fun j h => absurd h (Nat.not_lt_zero j)) (fun j => by rw [Nat.zero_add]) (by omega) ?_; intro w2 hown2 hg2; rw [Nat.zero_add] at hown2)
    | (at_builtin; refine wpl_append_fits rfl (.tmp 10) (.tmp 11) _ rfl e32 rfl (hown2.alloc _) rfl (sq_one (x := 4294967295) (lo := w.heap.size) (hi := w2.heap.size + 1) rfl (Nat.le_trans hb1.size hg2.size) (Nat.lt_succ_self _)) (lentF n f) (fun j hj => lentF_lt hj) lentF_add (by omega) ?_; intro w3 hown3 hg3))
  go_ret
  have hb2 := hb1.grown hg2 (Nat.le_of_lt hs1) (fun g hg => by injection hg with hg; omega)
  have hb3 := (hb2.alloc hb2.size (.cells #[.int .u32 4294967295] 22)).grown hg3 (by have := hb2.size; simp; omega) (fun g hg => by injection hg with hg; omega)
  exact ⟨rfl, hown3.row, hb3, by have := hg2.size; have := hg3.size; simp at this; omega⟩
end Go.Proofs.Ytoifjkandmnakaa
