/- The contract of the program's test for primes: it is exact. -/
import Derived.Test.YtcnkddoipmaddaaPrime
namespace Go.Proofs.Ytcnkddoipmaddaa
open Go.RowKit

def fewP : Nat → Nat := fun j => [2, 3, 5, 7, 11, 13, 61].getD j 0
def basP : Nat → Nat := fun j => [2, 7, 61].getD j 0

theorem pr_few {p : Nat} (h : p ∈ [2, 3, 5, 7, 11, 13, 61]) : Mr.Pr p := by
  simp at h
  rcases h with rfl | rfl | rfl | rfl | rfl | rfl | rfl <;> exact pr_lit (by omega) (by decide)

theorem fewP_bd {k : Nat} (h : k < 7) : 2 ≤ fewP k ∧ fewP k ≤ 61 := by
  rcases (show k = 0 ∨ k = 1 ∨ k = 2 ∨ k = 3 ∨ k = 4 ∨ k = 5 ∨ k = 6 by omega) with rfl | rfl | rfl | rfl | rfl | rfl | rfl <;> decide
theorem fewP_pr {k : Nat} (h : k < 7) : Mr.Pr (fewP k) := pr_few (by
  rcases (show k = 0 ∨ k = 1 ∨ k = 2 ∨ k = 3 ∨ k = 4 ∨ k = 5 ∨ k = 6 by omega) with rfl | rfl | rfl | rfl | rfl | rfl | rfl <;> decide)
theorem basP_pr {k : Nat} (h : k < 3) : Mr.Pr (basP k) := pr_few (by
  rcases (show k = 0 ∨ k = 1 ∨ k = 2 by omega) with rfl | rfl | rfl <;> decide)
theorem basP_bd {k : Nat} (h : k < 3) : 2 ≤ basP k ∧ basP k ≤ 61 := by
  rcases (show k = 0 ∨ k = 1 ∨ k = 2 by omega) with rfl | rfl | rfl <;> decide
set_option maxRecDepth 100000 in
theorem idx7 {k : Nat} (h : k < 7) : ∀ w, (Instr.index 98 (.agg #[.int .u32 2, .int .u32 3, .int .u32 5, .int .u32 7, .int .u32 11, .int .u32 13, .int .u32 61]) (.int .i64 (k : Int))).run Try.prog w = .ok (.int .u32 (fewP k : Int)) w := by
  rcases (show k = 0 ∨ k = 1 ∨ k = 2 ∨ k = 3 ∨ k = 4 ∨ k = 5 ∨ k = 6 by omega) with rfl | rfl | rfl | rfl | rfl | rfl | rfl <;> exact fun _ => by kernel_rfl
set_option maxRecDepth 100000 in
theorem idx3 {k : Nat} (h : k < 3) : ∀ w, (Instr.index 99 (.agg #[.int .u32 2, .int .u32 7, .int .u32 61]) (.int .i64 (k : Int))).run Try.prog w = .ok (.int .u32 (basP k : Int)) w := by
  rcases (show k = 0 ∨ k = 1 ∨ k = 2 by omega) with rfl | rfl | rfl <;> exact fun _ => by kernel_rfl

set_option maxHeartbeats 2000000 in
theorem prime_any (n : Nat) (w : World) (hn : n ≤ 4294967295) : Calls Try.prog 52 #[.int .u32 n] w (RetV w (.bool (prB n))) := by
  by_cases hlt : n < 2
  · have hr := Lib.hid (prB_no (n := n) fun hp => by have := hp.1; omega)
    have d1 : decide ((n : Int) < 2) = true := decide_eq_true (by omega)
    go_enter Try.func52, Try.ntmps52
    go_wp2
    go_ret
    exact ⟨by rw [hr.out]; rfl, Below.refl _ _⟩
  have d1 : decide ((n : Int) < 2) = false := decide_eq_false (by omega)
  go_enter Try.func52, Try.ntmps52
  go_wp2
  go_loopw [10] (fun x v => ∃ k : Nat, x = .int .i64 (k : Int) ∧ k ≤ 7 ∧ (∀ j, j < k → n % fewP j ≠ 0) ∧ v = w) (fun x _ => 7 - (intOf x).toNat)
  case atStart => exact ⟨0, rfl, by omega, fun j hj => absurd hj (Nat.not_lt_zero j), rfl⟩
  case round =>
    obtain ⟨k, rfl, hk, hne, rfl⟩ := hrel
    by_cases hk7 : k < 7
    · have hix := idx7 hk7
      obtain ⟨p, hp⟩ : ∃ p, fewP k = p := ⟨_, rfl⟩
      have hpp := fewP_pr hk7
      obtain ⟨hp2, hp61⟩ := fewP_bd hk7
      rw [hp] at hix hpp hp2 hp61
      by_cases h : n % p = 0
      · have hr := pr_of_mod hpp h
        have hr2 : ((n : Int) == (p : Int)) = prB n := by
          rw [hr]
          by_cases hnp : n = p
          · subst hnp; simp
          · have : ((n : Int) == (p : Int)) = false := by simp; omega
            rw [this]
            simp [hnp]
        have h0 : ((n : Int) % (p : Int) == 0) = true := by simp; omega
        have HR := Lib.hid hr2
        clear hr hr2 hne hpp hp h
        go_wp2
        go_ret
        exact ⟨by rw [← HR.out]; rfl, Below.refl _ _⟩
      · have h0 : ((n : Int) % (p : Int) == 0) = false := by simp; omega
        have HN := Lib.hid (show ∀ j, j < k + 1 → n % fewP j ≠ 0 from fun j hj => by
          rcases Nat.lt_or_ge j k with h1 | h1
          · exact hne j h1
          · obtain rfl : j = k := by omega
            rw [hp]; exact h)
        clear hne hpp hp h
        go_wp2
        go_roundw
        case rel => exact ⟨k + 1, by go_num, by omega, HN.out, trivial⟩
        case measure => simp [intOf]; omega
    · have h2 : n % 2 ≠ 0 := hne 0 (by omega)
      have h7 : n % 7 ≠ 0 := hne 3 (by omega)
      have h61 : n % 61 ≠ 0 := hne 6 (by omega)
      have hn3 : 3 ≤ n := by omega
      have hodd : n % 2 = 1 := by omega
      clear hne
      obtain ⟨w0, hw0⟩ : ∃ w0, w0 = wr := ⟨_, rfl⟩
      subst hw0
      go_wp2
      go_loopw [22] (fun x v => ∃ k : Nat, x = .int .i64 (k : Int) ∧ k ≤ 3 ∧ (∀ j, j < k → spB (basP j) n = true) ∧ Below w0.heap.size w0 v) (fun x _ => 3 - (intOf x).toNat)
      case atStart => exact ⟨0, rfl, by omega, fun j hj => absurd hj (Nat.not_lt_zero j), Below.refl _ _⟩
      case round =>
        obtain ⟨k, rfl, hk, hall, hbel⟩ := hrel
        by_cases hk3 : k < 3
        · have hix := idx3 hk3
          obtain ⟨p, hp⟩ : ∃ p, basP k = p := ⟨_, rfl⟩
          have hpp := basP_pr hk3
          obtain ⟨hp2, hp61⟩ := basP_bd hk3
          have hnp : n % basP k ≠ 0 := by
            rcases (show k = 0 ∨ k = 1 ∨ k = 2 by omega) with rfl | rfl | rfl
            · exact h2
            · exact h7
            · exact h61
          rw [hp] at hix hpp hp2 hp61 hnp
          have HPS := Lib.hid (passes_any p n wr (by omega) hn3 hn hodd)
          cases hs : spB p n
          · have hr := Lib.hid (pr_of_sp (by omega) (by omega) hnp hpp hs)
            rw [hs] at HPS
            clear hs hall hpp hp hnp
            go_wp2_with fail
            refine HPS.out.mono ?_
            rintro r w1 ⟨rfl, hb1⟩
            go_wp2
            go_ret
            exact ⟨by rw [hr.out]; rfl, hbel.trans (hb1.mono hbel.size)⟩
          · rw [hs] at HPS
            have HN := Lib.hid (show ∀ j, j < k + 1 → spB (basP j) n = true from fun j hj => by
              rcases Nat.lt_or_ge j k with h1 | h1
              · exact hall j h1
              · obtain rfl : j = k := by omega
                rw [hp]; exact hs)
            clear hs hall hpp hp hnp
            go_wp2_with fail
            refine HPS.out.mono ?_
            rintro r w1 ⟨rfl, hb1⟩
            go_wp2
            go_roundw
            case rel => exact ⟨k + 1, by go_num, by omega, HN.out, hbel.trans (hb1.mono hbel.size)⟩
            case measure => simp [intOf]; omega
        · obtain rfl : k = 3 := by omega
          have hr := Lib.hid (pr_of_all hn3 hodd hn h7 h61 (hall 0 (by omega)) (hall 1 (by omega)) (hall 2 (by omega)))
          clear hall
          go_wp2
          go_ret
          exact ⟨by rw [hr.out]; rfl, hbel⟩
end Go.Proofs.Ytcnkddoipmaddaa
