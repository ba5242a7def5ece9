/- The contracts of: kept; the reference's Check and both; poly.valid at one and at two polynomials. -/
import Derived.Test.YtoifjkandmnakaaSmallC
namespace Go.Proofs.Ytoifjkandmnakaa
open Go.RowKit

set_option maxHeartbeats 400000 in
theorem kept_any (b n c : Nat) (A : Option Addr) (f : Nat → Nat) (w : World) (lo hi : Nat) (hr : w.rowIs b 22 (n + 1) (ku .u32 (lentF n f))) (h : Sq .u32 w lo hi A n f) (hn : n ≤ 1000000) (hhi : hi ≤ w.heap.size) :
    Calls Try.prog 19 #[.slice (some ⟨b, 0, none⟩) n (n + 1), .slice A n c] w (RetV w (.bool true)) := by
  have hsq : Sq .u32 w 0 w.heap.size (some ⟨b, 0, none⟩) n f := Sq.of_row hr (by omega) (Nat.zero_le _) hr.lt h.1 fun j hj => lentF_lt hj
  have hs := same_any n n (n + 1) c (some ⟨b, 0, none⟩) A f f w 0 w.heap.size lo hi hsq h hn hn (Nat.le_refl _) hhi
  rw [sameB_refl] at hs
  have HS := Lib.hid hs
  have hb := hr.lt
  have hcell : w.cell? ⟨b, n, none⟩ = some (.int .u32 4294967295) := by
    rw [hr.cell (show n < n + 1 by omega)]
    simp [ku, lentF]
  have HC := Lib.hid hcell
  clear hs hsq h hr hcell
  go_enter Try.func19, Try.ntmps19
  go_wp2_with (go_at_call 22; refine HS.out.mono ?_; rintro e w' ⟨rfl, hbel⟩; have hc2 := (hbel.cell (p := ⟨b, n, none⟩) hb).trans HC.out)
  go_ret
  exact ⟨rfl, hbel⟩

set_option maxHeartbeats 400000 in
theorem check_any (m n c : Nat) (A : Option Addr) (f : Nat → Nat) (w : World) (lo hi : Nat) (h : Sq .u32 w lo hi A n f) (hn : n ≤ 9223372036854775807) :
    Calls Try.prog 27 #[.int .u32 m, .slice A n c] w (RetV w (.int .i64 (chk m n f))) := by
  by_cases hm1 : m < 2
  · rw [chk_m (.inl hm1)]
    go_enter Try.func27, Try.ntmps27
    go_wp2
    go_ret
    exact ⟨rfl, Below.refl _ _⟩
  by_cases hm2 : 2147483647 < m
  · rw [chk_m (.inr hm2)]
    go_enter Try.func27, Try.ntmps27
    go_wp2
    go_ret
    exact ⟨rfl, Below.refl _ _⟩
  by_cases hl : 256 < n
  · rw [chk_long (by omega) (by omega) hl]
    go_enter Try.func27, Try.ntmps27
    go_wp2
    go_ret
    exact ⟨rfl, Below.refl _ _⟩
  go_enter Try.func27, Try.ntmps27
  go_wp2
  go_loop [5] (fun i => ∃ k : Nat, k ≤ n ∧ i = .int .i64 k ∧ (∀ j, j < k → f j < m)) (fun i => n - (intOf i).toNat)
  case atStart => exact ⟨0, Nat.zero_le _, rfl, fun j hj => absurd hj (Nat.not_lt_zero j)⟩
  case round =>
    obtain ⟨k, hk, rfl, hle⟩ := hrel
    have HL := Lib.hid hle
    clear hle
    by_cases hkn : k < n
    · obtain ⟨g, off, rfl, _, _, hcell⟩ := h.2 (by omega)
      have hc1 := hcell k hkn
      obtain ⟨x, hx⟩ : ∃ x, f k = x := ⟨_, rfl⟩
      rw [hx] at hc1
      have HX := Lib.hid hx
      clear hx hcell h
      by_cases hxm : m ≤ x
      · go_wp2
        go_ret
        exact ⟨by rw [chk_big (by omega) (by omega) (by omega) hkn (by rw [HX.out]; exact hxm)]; rfl, Below.refl _ _⟩
      · go_wp2
        go_round
        case rel =>
          refine ⟨k + 1, by omega, by go_num, fun j hj => ?_⟩
          rcases Nat.lt_or_ge j k with h | h
          · exact HL.out j h
          · rw [show j = k from by omega, HX.out]; omega
        case measure => simp [intOf]; omega
    · obtain rfl : k = n := by omega
      by_cases hn0 : 0 < k
      · obtain ⟨g, off, rfl, _, _, hcell⟩ := h.2 (by omega)
        have hc1 := hcell (k - 1) (by omega)
        obtain ⟨x, hx⟩ : ∃ x, f (k - 1) = x := ⟨_, rfl⟩
        rw [hx] at hc1
        have HX := Lib.hid hx
        clear hx hcell h
        have hkz : ((k : Int) - 1).toNat = k - 1 := by omega
        by_cases hx0 : x = 0
        · subst hx0
          go_wp2
          go_ret
          exact ⟨by rw [chk_last (by omega) (by omega) (by omega) hn0 HX.out]; rfl, Below.refl _ _⟩
        · have hxz : ((x : Int) == 0) = false := by simp; omega
          go_wp2
          go_ret
          exact ⟨by rw [chk_ok (by omega) (by omega) (by omega) HL.out (fun _ => by rw [HX.out]; exact hx0)]; rfl, Below.refl _ _⟩
      · clear h
        go_wp2
        go_ret
        exact ⟨by rw [chk_ok (by omega) (by omega) (by omega) HL.out (fun h => absurd h hn0)]; rfl, Below.refl _ _⟩

set_option maxHeartbeats 400000 in
theorem both_any (m n nb ca cb : Nat) (A B : Option Addr) (a b : Nat → Nat) (w : World) (lo hi lo2 hi2 : Nat) (ha : Sq .u32 w lo hi A n a) (hb : Sq .u32 w lo2 hi2 B nb b) (hn : n ≤ 9223372036854775807) (hnb : nb ≤ 9223372036854775807) (hhi2 : hi2 ≤ w.heap.size) :
    Calls Try.prog 47 #[.int .u32 m, .slice A n ca, .slice B nb cb] w (RetV w (.int .i64 (chk2 m n a nb b))) := by
  have h1 := check_any m n ca A a w lo hi ha hn
  have HB := Lib.hid hb
  by_cases h0 : chk m n a = 0
  · unfold chk2
    rw [if_pos h0]
    rw [h0] at h1
    have H1 := Lib.hid h1
    clear h1 h0 ha hb
    go_enter Try.func47, Try.ntmps47
    go_wp2_with fail
    refine H1.out.mono ?_
    rintro e w1 ⟨rfl, hb1⟩
    go_wp2_with fail
    refine (check_any m nb cb B b w1 lo2 hi2 (HB.out.below hb1 hhi2) hnb).mono ?_
    rintro e w2 ⟨rfl, hb2⟩
    go_wp2
    go_ret
    exact ⟨rfl, hb1.trans (hb2.mono hb1.size)⟩
  · unfold chk2
    rw [if_neg h0]
    obtain ⟨x, hx⟩ : ∃ x, chk m n a = x := ⟨_, rfl⟩
    rw [hx] at h1 h0
    rw [hx]
    have hxz : ((x : Int) != 0) = true := by simp; omega
    have H1 := Lib.hid h1
    clear h1 hx ha hb
    go_enter Try.func47, Try.ntmps47
    go_wp2_with fail
    refine H1.out.mono ?_
    rintro e w1 ⟨rfl, hb1⟩
    go_wp2
    go_ret
    exact ⟨rfl, hb1⟩
end Go.Proofs.Ytoifjkandmnakaa
