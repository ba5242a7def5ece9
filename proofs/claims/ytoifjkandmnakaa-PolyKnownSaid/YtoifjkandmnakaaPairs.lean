/- The iterator pairs of poly.Interpolate: its contract. -/
import Derived.RangeFuncNested
import Derived.RangeFuncBound
import Derived.RangeFuncCalls
import Derived.RangeFuncLeaves
import Derived.Shelf.Abstract
import Derived.Shelf.RegionOpen
import Derived.OwnWalkIn
import Derived.TacticsInMore
import Derived.LoopNIn
import Derived.LoopIn
import Derived.Test.YtoifjkandmnakaaTrim
namespace Go.Proofs.Ytoifjkandmnakaa
open Go.RowKit Go.Shelf
set_option linter.unusedVariables false

/-- a pair of places below n, the greater one first -/
abbrev Pair (n : Nat) := { p : Nat × Nat // p.2 < p.1 ∧ p.1 < n }
def encP {n : Nat} (x : Pair n) : Array Value := #[.int .i64 (x.1.1 : Int), .int .i64 (x.1.2 : Int)]
/-- all pairs have come with the first below i, and those of i with the second below k -/
def Came {n : Nat} (i k : Nat) (xs : List (Pair n)) : Prop := (∀ x : Pair n, x.1.1 < i ∨ x.1.1 = i ∧ x.1.2 < k → x ∈ xs) ∧ xs.length ≤ i * n + k

theorem Came.zero {n : Nat} : Came (n := n) 0 0 [] := ⟨fun x h => by omega, by simp⟩
theorem Came.next {n i k : Nat} {xs : List (Pair n)} (h : Came i k xs) (hk : i = k) (hi : i < n) : Came (i + 1) 0 xs := by
  subst hk
  refine ⟨fun x hx => h.1 x ?_, ?_⟩
  · have := x.2
    omega
  · have := h.2
    rw [Nat.succ_mul]
    omega
theorem Came.snoc {n i k : Nat} {xs : List (Pair n)} (h : Came i k xs) (hk : k < i) (hi : i < n) : Came i (k + 1) (xs ++ [⟨(i, k), hk, hi⟩]) := by
  refine ⟨fun x hx => ?_, ?_⟩
  · rw [List.mem_append, List.mem_singleton]
    by_cases h1 : x.1.1 = i ∧ x.1.2 = k
    · refine .inr (Subtype.ext ?_)
      obtain ⟨⟨a, b⟩, hab⟩ := x
      simp only at h1 ⊢
      rw [h1.1, h1.2]
    · exact .inl (h.1 x (by omega))
  · have := h.2
    simp
    omega
theorem Came.room {n i k : Nat} {xs : List (Pair n)} (h : Came i k xs) (hk : k < i) (hi : i < n) : xs.length < n * n := by
  have h1 := h.2
  have h2 : (i + 1) * n ≤ n * n := Nat.mul_le_mul_right n hi
  rw [Nat.succ_mul] at h2
  omega

theorem pairs_any (n : Int) (w : World) : Calls Try.prog 59 #[.int .i64 n] w fun e w' => e = .returned (.func (.func 65) #[] #[.pointer (some ⟨w.heap.size, 0, none⟩)]) ∧ w' = w.alloc (.cells #[.int .i64 n] 3) := by
  go_enter Try.func59, Try.ntmps59
  go_wp2
  go_ret
  exact ⟨rfl, rfl⟩

set_option maxHeartbeats 1000000 in
theorem pairs_stops {Kp : World → World → Prop} (F : Fence) (m : Nat) (hF : F.fn 65) (hro : F.round = none) (hm : 1 ≤ m) (n b : Nat) (w : World) (hb : b < w.heap.size) (hn : n ≤ 9223372036854775807)
    (hc : w.cell? ⟨b, 0, none⟩ = some (.int .i64 (n : Int))) :
    SeqStopsK F m Try.prog 65 #[.pointer (some ⟨b, 0, none⟩)] (encP (n := n)) Kp (fun xs => Came n 0 xs) (fun _ => True) (n * n) w := fun l J Jx W hW hJ hJx hY h0 => by
  have hcW : W.cell? ⟨b, 0, none⟩ = some (.int .i64 (n : Int)) := (hW.cell (p := ⟨b, 0, none⟩) hb).trans hc
  refine callsIn_of_wp Try.func65 rfl hF ?_ hro
  simp only [Try.ntmps65, List.size_toArray, List.length_cons, List.length_nil, Nat.reduceAdd, Nat.reduceSub, Array.replicate_succ, Array.replicate_zero, List.push_toArray, List.append_toArray, List.nil_append, List.cons_append]
  gi_wp2
  gi_loopw [6] (fun p wr => ∃ (i : Nat) (pre : List (Pair n)), p = .int .i64 (i : Int) ∧ i ≤ n ∧ Came i 0 pre ∧ J pre wr) (fun p _ => n - (intOf p).toNat)
  case atStart => exact ⟨0, [], rfl, Nat.zero_le _, Came.zero, h0⟩
  case round =>
    obtain ⟨i, pre, rfl, hi, hcm, hJs⟩ := hrel
    by_cases hin : i < n
    · gi_wp2
      gi_loopw [10] (fun p wr => ∃ (k : Nat) (pre : List (Pair n)), p = .int .i64 (k : Int) ∧ k ≤ i ∧ Came i k pre ∧ J pre wr) (fun p _ => i - (intOf p).toNat)
      case atStart => exact ⟨0, pre, rfl, Nat.zero_le _, hcm, hJs⟩
      case round =>
        clear hcm hJs
        obtain ⟨k, pre, rfl, hk, hcm, hJs⟩ := hrel
        by_cases hki : k < i
        · obtain ⟨fn, tmps, assign, body, hy, hR⟩ := hY pre ⟨(i, k), hki, hin⟩ _ hJs (hcm.room hki hin)
          dsimp only [encP] at hy
          gi_wp2
          refine hR.mono ?_
          rintro e W1 (⟨rfl, hJ1, _⟩ | ⟨rfl, hx1⟩)
          · gi_wp2
            go_roundw
            case rel => exact ⟨k + 1, _, rfl, hki, hcm.snoc hki hin, hJ1⟩
            case measure => simp only [intOf]; omega
          · gi_wp2
            refine bodyPost_ret (results_none rfl _ _ _) rfl ?_
            exact ⟨⟨_, rfl⟩, .inr ⟨_, trivial, hx1⟩⟩
        · gi_wp2
          go_roundw
          case rel => exact ⟨i + 1, _, rfl, hin, hcm.next (by omega) hin, hJs⟩
          case measure => simp only [intOf]; omega
    · obtain rfl : i = n := by omega
      gi_wp2
      go_end0
      exact ⟨⟨_, rfl⟩, .inl ⟨pre, hcm, hJs⟩⟩
end Go.Proofs.Ytoifjkandmnakaa
