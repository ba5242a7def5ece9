/- The contract of poly.product. -/
import Derived.Test.YtoifjkandmnakaaValid
namespace Go.Proofs.Ytoifjkandmnakaa
open Go.RowKit

theorem retSl_nil {w w' : World} {F : Nat → Nat} {N : Nat} (h : ∀ j, F j = 0) (hb : Below w.heap.size w w') : RetSl w (tl F N) F (.returned (.slice none 0 0)) w' :=
  ⟨none, 0, by rw [tl_zeros h], by rw [tl_zeros h]; exact Nat.le_refl _, by rw [tl_zeros h]; exact ⟨fun j _ => h j, fun h => absurd h (Nat.lt_irrefl 0)⟩, hb⟩

set_option maxHeartbeats 1000000 in
theorem product_any (m n nb ca cb : Nat) (A B : Option Addr) (a b : Nat → Nat) (w : World) (lo hi : Nat) (ha : Sq .u32 w lo hi A n a) (hb : Sq .u32 w lo hi B nb b)
    (hm : 0 < m) (hm2 : m ≤ 2147483647) (haa : ∀ j, a j < m) (hbb : ∀ j, b j < m) (hn : n ≤ 1000) (hnb : nb ≤ 1000) (hhi : hi ≤ w.heap.size) :
    Calls Try.prog 51 #[.int .u32 m, .slice A n ca, .slice B nb cb] w (RetSl w (tl (mulF m a b) (n + nb)) (mulF m a b)) := by
  by_cases hn0 : n = 0
  · subst hn0
    have HZ := Lib.hid (mulF_zero (m := m) (b := b) (.inl fun j => ha.1 j (Nat.zero_le j)))
    clear ha hb haa hbb
    go_enter Try.func51, Try.ntmps51
    go_wp2
    go_ret
    exact retSl_nil HZ.out (Below.refl _ _)
  by_cases hnb0 : nb = 0
  · subst hnb0
    have HZ := Lib.hid (mulF_zero (m := m) (a := a) (.inr fun j => hb.1 j (Nat.zero_le j)))
    have hnz : ((n : Int) == 0) = false := by simp; omega
    clear ha hb haa hbb
    go_enter Try.func51, Try.ntmps51
    go_wp2
    go_ret
    exact retSl_nil HZ.out (Below.refl _ _)
  have hnz : ((n : Int) == 0) = false := by simp; omega
  have hnbz : ((nb : Int) == 0) = false := by simp; omega
  obtain ⟨N, hN⟩ : ∃ N, n + nb = N + 1 := ⟨n + nb - 1, by omega⟩
  have hN1 : (n : Int) + (nb : Int) - 1 = (N : Int) := by omega
  have hN2 : N ≤ 2000 := by omega
  have HN := Lib.hid hN
  have HN1 := Lib.hid hN1
  clear hN hN1
  go_enter Try.func51, Try.ntmps51
  go_wp2_with (at_make; refine wpl_make rfl _ _ _ rfl e32 .i64 .i64 _ _ N rfl rfl HN1.out HN1.out (by omega) (by unfold maxLen; omega) ?_; intro w1 hr1 hb1 hs1)
  go_loopw [29] (fun i wr => ∃ k : Nat, k ≤ n ∧ i = .int .i64 k ∧ wr.rowIs w.heap.size 22 N (ku .u32 fun j => pS a b k j % m) ∧ Below w.heap.size w wr ∧ w.heap.size < wr.heap.size) (fun i _ => n - (intOf i).toNat)
  case atStart =>
    refine ⟨0, Nat.zero_le _, rfl, hr1.congr fun j _ => ?_, hb1, hs1⟩
    simp [ku, pS, sumN]
  case round =>
    clear hr1 hb1 hs1
    obtain ⟨k, hk, rfl, hr, hbel, hsz⟩ := hrel
    by_cases hkn : k < n
    · obtain ⟨g, off, rfl, _, hg, hcell⟩ := ha.2 (by omega)
      have hc1 := (hbel.cell (p := ⟨g, off + k, none⟩) (show g < w.heap.size by omega)).trans (hcell k hkn)
      obtain ⟨x, hx⟩ : ∃ x, a k = x := ⟨_, rfl⟩
      have hxm := haa k
      rw [hx] at hc1 hxm
      have HX := Lib.hid hx
      have HR := Lib.hid hr
      clear hx hcell hr ha
      go_wp2
      clear hc1
      go_loopw [36] (fun i ws => ∃ t : Nat, t ≤ nb ∧ i = .int .i64 t ∧ ws.rowIs w.heap.size 22 N (ku .u32 fun j => if k ≤ j ∧ j < k + t then pS a b (k + 1) j % m else pS a b k j % m) ∧ Below w.heap.size w ws ∧ w.heap.size < ws.heap.size) (fun i _ => nb - (intOf i).toNat)
      case atStart =>
        refine ⟨0, Nat.zero_le _, rfl, HR.out.congr fun j _ => ?_, hbel, hsz⟩
        simp only [ku]
        rw [if_neg (by omega)]
      case round =>
        clear HR hbel hsz
        obtain ⟨t, ht, rfl, hr, hbel, hsz⟩ := hrel
        by_cases htn : t < nb
        · obtain ⟨g2, off2, rfl, _, hg2, hcell2⟩ := hb.2 (by omega)
          have hc1 := (hbel.cell (p := ⟨g2, off2 + t, none⟩) (show g2 < w.heap.size by omega)).trans (hcell2 t htn)
          obtain ⟨y, hy⟩ : ∃ y, b t = y := ⟨_, rfl⟩
          have hym := hbb t
          rw [hy] at hc1 hym
          have hN0 := HN.out
          have hc2 := hr.cell (show k + t < N by omega)
          simp only [ku] at hc2
          rw [if_neg (show ¬(k ≤ k + t ∧ k + t < k + t) by omega)] at hc2
          obtain ⟨z, hz⟩ : ∃ z, pS a b k (k + t) % m = z := ⟨_, rfl⟩
          have hzm : pS a b k (k + t) % m < m := Nat.mod_lt _ hm
          rw [hz] at hc2 hzm
          have hf2 := hr.frozen (k + t)
          have hxy2 := mul_lt_int hxm hym hm2
          have hxy3 : 0 ≤ (x : Int) * (y : Int) := Int.mul_nonneg (Int.natCast_nonneg _) (Int.natCast_nonneg _)
          have hd1 : 0 ≤ ((z : Int) + (x : Int) * (y : Int)) % (m : Int) := Int.emod_nonneg _ (by omega)
          have hd2 : ((z : Int) + (x : Int) * (y : Int)) % (m : Int) < (m : Int) := Int.emod_lt_of_pos _ (by omega)
          have hNk : k + t < N := by omega
          have HY := Lib.hid hy
          have HZ := Lib.hid hz
          have HR := Lib.hid hr
          clear hy hz hcell2 hb hr hN0
          go_wp2
          go_roundw
          case rel =>
            refine ⟨t + 1, by omega, by go_num, ?_, hbel.setCell (Nat.le_refl _) _, by simpa using hsz⟩
            have e1 : ((z : Int) + (x : Int) * (y : Int)) % (m : Int) = (((z + x * y) % m : Nat) : Int) := by simp
            rw [e1]
            refine (rowIs_set_ku HR.out (k + t) ((z + x * y) % m)).congr fun j _ => ?_
            simp only [ku]
            congr 2
            by_cases h1 : j = k + t
            · subst h1
              rw [if_pos rfl, if_pos (by omega), pS_succ_hit (Nat.le_add_right k t), Nat.add_sub_cancel_left, HX.out, HY.out, ← HZ.out, Nat.mod_add_mod]
            · rw [if_neg h1]
              by_cases h2 : k ≤ j ∧ j < k + t
              · rw [if_pos h2, if_pos (by omega)]
              · rw [if_neg h2, if_neg (by omega)]
          case measure => simp [intOf]; omega
        · have hrow : wr.rowIs w.heap.size 22 N (ku .u32 fun j => pS a b (k + 1) j % m) := by
            refine hr.congr fun j _ => ?_
            simp only [ku]
            congr 2
            split
            · rfl
            · rw [pS_succ_miss]
              rcases Nat.lt_or_ge j k with h | h
              · exact .inl h
              · exact .inr (hb.1 _ (by omega))
          have HR := Lib.hid hrow
          clear hr hrow hb
          go_wp2
          go_roundw
          case rel => exact ⟨k + 1, by omega, by go_num, HR.out, hbel, hsz⟩
          case measure => simp [intOf]; omega
    · obtain rfl : k = n := by omega
      have hN0 := HN.out
      have hsq : Sq .u32 wr w.heap.size wr.heap.size (some ⟨w.heap.size, 0, none⟩) N (mulF m a b) := by
        refine Sq.of_row hr (Nat.le_refl _) (Nat.le_refl _) hsz (fun j hj => mulF_ext ha.1 hb.1 j (by omega)) fun j hj => ?_
        unfold mulF
        rw [pS_full ha.1]
      have HS := Lib.hid hsq
      have hT : tl (mulF m a b) N = tl (mulF m a b) (k + nb) := tl_ext (fun j hj => mulF_ext ha.1 hb.1 j (by omega)) (fun j hj => mulF_ext ha.1 hb.1 j (by omega))
      have HT := Lib.hid hT
      have HE := Lib.hid (fun j (hj : k + nb ≤ j + 1) => mulF_ext (m := m) ha.1 hb.1 j hj)
      clear hsq hr ha hb haa hbb hT hN0
      go_wp2_with (go_at_call 61; refine (trim_any _ _ _ _ _ _ _ HS.out (Nat.le_refl _) (by omega)).mono ?_; rintro e w' ⟨rfl, rfl⟩)
      go_ret
      have hT2 := tl_le (mulF m a b) N
      exact ⟨_, _, ret_slice HT.out, by have := HT.out; omega, sq_n (sq_tl HS.out) HT.out, hbel⟩
end Go.Proofs.Ytoifjkandmnakaa
