/- The contract of modular.fits. -/
import Derived.Test.YtbajapjaejpcjaaRet
namespace Go.Proofs.Ytbajapjaejpcjaa
open Go.RowKit

/-- n is a modulus and the numbers are residues -/
def fitsB (n L : Nat) (f : Nat → Nat) : Bool := ((List.range L).all fun j => decide (f j < n)) && (decide (2 ≤ n) && decide (n ≤ 2147483647))

theorem fitsB_big {n L k : Nat} {f : Nat → Nat} (hk : k < L) (h : n ≤ f k) : fitsB n L f = false := by
  unfold fitsB
  have : ((List.range L).all fun j => decide (f j < n)) = false := by
    simp only [List.all_eq_false, List.mem_range, decide_eq_true_eq]
    exact ⟨k, hk, by omega⟩
  rw [this]
  rfl
theorem fitsB_all {n L : Nat} {f : Nat → Nat} (h : ∀ j, j < L → f j < n) : fitsB n L f = (decide (2 ≤ n) && decide (n ≤ 2147483647)) := by
  unfold fitsB
  have : ((List.range L).all fun j => decide (f j < n)) = true := by
    simp only [List.all_eq_true, List.mem_range, decide_eq_true_eq]
    exact h
  rw [this]
  rfl

set_option maxHeartbeats 400000 in
theorem fits_any (n L c : Nat) (A : Option Addr) (f : Nat → Nat) (w : World) (lo hi : Nat) (h : Sq .u32 w lo hi A L f) (hL : L ≤ 8) :
    Calls Try.prog 42 #[.int .u32 n, .slice A L c] w (RetP w (.bool (fitsB n L f))) := by
  go_enter Try.func42, Try.ntmps42
  go_wp2
  go_loop [9] (fun i => ∃ k : Nat, k ≤ L ∧ i = .int .i64 k ∧ (∀ j, j < k → f j < n)) (fun i => L - (intOf i).toNat)
  case atStart => exact ⟨0, Nat.zero_le _, rfl, fun j hj => absurd hj (Nat.not_lt_zero j)⟩
  case round =>
    obtain ⟨k, hk, rfl, hle⟩ := hrel
    have HL := Lib.hid hle
    clear hle
    by_cases hkL : k < L
    · obtain ⟨g, off, rfl, _, _, hcell⟩ := h.2 (by omega)
      have hc1 := hcell k hkL
      obtain ⟨x, hx⟩ : ∃ x, f k = x := ⟨_, rfl⟩
      rw [hx] at hc1
      have HX := Lib.hid hx
      clear hx hcell h
      by_cases hxn : n ≤ x
      · go_wp2
        go_ret
        exact ⟨by rw [fitsB_big hkL (by rw [HX.out]; exact hxn)]; rfl, rfl⟩
      · go_wp2
        go_round
        case rel =>
          refine ⟨k + 1, by omega, by go_num, fun j hj => ?_⟩
          rcases Nat.lt_or_ge j k with h | h
          · exact HL.out j h
          · rw [show j = k from by omega, HX.out]; omega
        case measure => simp [intOf]; omega
    · clear h
      have HF := Lib.hid (fitsB_all (n := n) (fun j (hj : j < L) => HL.out j (by omega)))
      by_cases h2 : 2 ≤ n
      · by_cases h3 : n ≤ 2147483647
        · have hdd : decide ((n : Int) ≤ 2147483647) = true := decide_eq_true (by omega)
          have hB : (decide (2 ≤ n) && decide (n ≤ 2147483647)) = true := by simp [h2, h3]
          have HB := Lib.hid hB
          clear hB
          go_wp2
          go_ret
          exact ⟨by rw [HF.out, HB.out]; rfl, rfl⟩
        · have hdd : decide ((n : Int) ≤ 2147483647) = false := decide_eq_false (by omega)
          have hB : (decide (2 ≤ n) && decide (n ≤ 2147483647)) = false := by simp [h3]
          have HB := Lib.hid hB
          clear hB
          go_wp2
          go_ret
          exact ⟨by rw [HF.out, HB.out]; rfl, rfl⟩
      · have hB : (decide (2 ≤ n) && decide (n ≤ 2147483647)) = false := by simp [h2]
        have HB := Lib.hid hB
        clear hB
        go_wp2
        go_ret
        exact ⟨by rw [HF.out, HB.out]; rfl, rfl⟩

theorem fits_one {a m : Nat} : fitsB m 1 (oneF a) = true ↔ a < m ∧ 2 ≤ m ∧ m ≤ 2147483647 := by
  unfold fitsB oneF
  simp [List.range_succ]
end Go.Proofs.Ytbajapjaejpcjaa
