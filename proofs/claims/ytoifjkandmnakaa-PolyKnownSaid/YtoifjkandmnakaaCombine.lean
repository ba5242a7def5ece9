/- The contract of poly.combine: a + c b modulo m, without the zeros at its end. -/
import Derived.Test.YtoifjkandmnakaaLaws
import Derived.Test.YtoifjkandmnakaaTrim
import Derived.Test.YtoifjkandmnakaaPlain
namespace Go.Proofs.Ytoifjkandmnakaa
open Go.RowKit

def combF (m : Nat) (a b : Nat → Nat) (c : Nat) : Nat → Nat := fun j => (a j + b j * c) % m

set_option maxHeartbeats 400000 in
theorem combine_any (m c n nb ca cb : Nat) (A B : Option Addr) (a b : Nat → Nat) (w : World) (lo hi : Nat) (ha : Sq .u32 w lo hi A n a) (hb : Sq .u32 w lo hi B nb b)
    (hm : 0 < m) (hm2 : m ≤ 2147483647) (hc : c < m) (haa : ∀ j, a j < m) (hbb : ∀ j, b j < m) (hn : n ≤ 1000) (hnb : nb ≤ 1000) (hhi : hi ≤ w.heap.size) :
    Calls Try.prog 52 #[.int .u32 m, .slice A n ca, .slice B nb cb, .int .u32 c] w (RetSl w (tl (combF m a b c) (max n nb)) (combF m a b c)) := by
  obtain ⟨N, hN⟩ : ∃ N, N = max n nb := ⟨_, rfl⟩
  rw [← hN]
  have hN3 : N ≤ 1000 := by omega
  have hN1 : n ≤ N := by omega
  have hN2 : nb ≤ N := by omega
  rcases Nat.lt_or_ge n nb with hlt | hlt
  all_goals
    have HN := Lib.hid hN
    clear hN
    go_enter Try.func52, Try.ntmps52
    go_wp2_with (first
      | (at_make; refine wpl_make rfl _ _ _ rfl e32 .i64 .i64 _ _ _ rfl rfl rfl rfl (by omega) (by unfold maxLen; omega) ?_; intro w1 hr1 hb1 hs1)
      | ((with_reducible show wpList _ _ _ _ _ _); refine wpl_copy rfl _ _ _ rfl e32 rfl hr1 rfl (ha.below hb1 hhi) (by omega) ?_; intro w2 hr2 hb2))
    go_loopw [23] (fun i wr => ∃ k : Nat, k ≤ nb ∧ i = .int .i64 k ∧ wr.rowIs w.heap.size 22 N (ku .u32 fun j => if j < k then (a j + b j * c) % m else a j) ∧ Below w.heap.size w wr ∧ w.heap.size < wr.heap.size) (fun i _ => nb - (intOf i).toNat)
    case atStart =>
      refine ⟨0, Nat.zero_le _, rfl, ?_, hb1.trans hb2, by have := hb2.size; omega⟩
      refine (rowIs_n hr2 (by have := HN.out; omega)).congr fun j hj => ?_
      simp only [ku, Nat.not_lt_zero, if_false]
      split
      · rfl
      · rw [ha.1 j (by omega)]
    case round =>
      clear hr1 hr2 hb1 hb2 hs1
      obtain ⟨k, hk, rfl, hr, hbel, hsz⟩ := hrel
      by_cases hkn : k < nb
      · obtain ⟨g, off, rfl, _, hg, hcell⟩ := hb.2 (by omega)
        have hc1 : wr.cell? ⟨g, off + k, none⟩ = some (.int .u32 (b k : Nat)) := (hbel.cell (show g < w.heap.size by omega)).trans (hcell k hkn)
        have hc2 := hr.cell (show k < N by omega)
        simp only [ku, Nat.lt_irrefl, if_false] at hc2
        have hf2 := hr.frozen k
        obtain ⟨x, hx⟩ : ∃ x, b k = x := ⟨_, rfl⟩
        obtain ⟨y, hy⟩ : ∃ y, a k = y := ⟨_, rfl⟩
        have hxm := hbb k
        have hym := haa k
        rw [hx] at hc1 hxm
        rw [hy] at hc2 hym
        have hxc2 : (x : Int) * (c : Int) ≤ 4611686009837453316 := mul_lt_int hxm hc hm2
        have hxc3 : 0 ≤ (x : Int) * (c : Int) := Int.mul_nonneg (Int.natCast_nonneg _) (Int.natCast_nonneg _)
        have hd1 : 0 ≤ ((y : Int) + (x : Int) * (c : Int)) % (m : Int) := Int.emod_nonneg _ (by omega)
        have hd2 : ((y : Int) + (x : Int) * (c : Int)) % (m : Int) < (m : Int) := Int.emod_lt_of_pos _ (by omega)
        have HX := Lib.hid hx
        have HY := Lib.hid hy
        have HR := Lib.hid hr
        clear hx hy hcell hb hr
        go_wp2
        go_roundw
        case rel =>
          refine ⟨k + 1, by omega, by go_num, ?_, hbel.setCell (Nat.le_refl _) _, by simpa using hsz⟩
          have e1 : ((y : Int) + (x : Int) * (c : Int)) % (m : Int) = (((y + x * c) % m : Nat) : Int) := by simp
          rw [e1]
          refine (rowIs_set_ku HR.out k ((y + x * c) % m)).congr fun j _ => ?_
          simp only [ku]
          congr 2
          by_cases h1 : j = k
          · subst h1
            rw [if_pos rfl, if_pos (by omega), HX.out, HY.out]
          · rw [if_neg h1]
            by_cases h2 : j < k
            · rw [if_pos h2, if_pos (by omega)]
            · rw [if_neg h2, if_neg (by omega)]
        case measure => simp [intOf]; omega
      · have hsq : Sq .u32 wr w.heap.size wr.heap.size (some ⟨w.heap.size, 0, none⟩) N (combF m a b c) := by
          refine Sq.of_row hr (Nat.le_refl _) (Nat.le_refl _) hsz (fun j hj => ?_) fun j hj => ?_
          · simp only [combF]
            rw [ha.1 j (by omega), hb.1 j (by omega)]
            simp
          · simp only [combF]
            split
            · rfl
            · rw [hb.1 j (by omega), Nat.zero_mul, Nat.add_zero, Nat.mod_eq_of_lt (haa j)]
        have HS := Lib.hid hsq
        clear hsq hr ha hb haa hbb
        go_wp2_with (go_at_call 61; refine (trim_any _ _ _ _ _ _ _ (sq_n HS.out (by have := HN.out; omega)) (Nat.le_refl _) (by omega)).mono ?_; rintro e w' ⟨rfl, rfl⟩)
        go_ret
        have hT := tl_le (combF m a b c) N
        refine ⟨_, _, ret_slice (congrArg (tl (combF m a b c)) (by have := HN.out; omega)), by have := HN.out; omega, ?_, hbel⟩
        exact sq_tl HS.out
end Go.Proofs.Ytoifjkandmnakaa
