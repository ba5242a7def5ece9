/- The contract of poly.trim: the slice, cut behind its last element that is not zero. -/
import Derived.Test.YtoifjkandmnakaaChecked
import Derived.Test.YtoifjkandmnakaaLaws
namespace Go.Proofs.Ytoifjkandmnakaa
open Go.RowKit

theorem e32 : ElemOf Try.prog 23 22 .u32 4 := ⟨Try.underlying23, by kernel_rfl⟩

def TrimRet (A : Option Addr) (n c : Nat) (f : Nat → Nat) (w : World) (e : Ending) (w' : World) : Prop := e = .returned (.slice A (tl f n) c) ∧ w = w'

set_option maxHeartbeats 400000 in
theorem trim_any (A : Option Addr) (n c : Nat) (f : Nat → Nat) (w : World) (lo hi : Nat) (h : Sq .u32 w lo hi A n f) (hc : n ≤ c) (hn : n ≤ 1000000) :
    Calls Try.prog 61 #[.slice A n c] w (TrimRet A n c f w) := by
  go_enter Try.func61, Try.ntmps61
  go_wp2
  go_loop [0] (fun t => ∃ k : Nat, k ≤ n ∧ t = .slice A k c ∧ (∀ j, k ≤ j → j < n → f j = 0)) (fun t => match t with | .slice _ n _ => n | _ => 0)
  case atStart => exact ⟨n, by omega, rfl, fun j h1 h2 => by omega⟩
  case round =>
    obtain ⟨k, hk, rfl, hz⟩ := hrel
    have HZ := Lib.hid hz
    clear hz
    by_cases hk0 : 0 < k
    · obtain ⟨b, off, rfl, _, _, hcell⟩ := h.2 (by omega)
      have hc1 := hcell (k-1) (by omega)
      obtain ⟨x, hx⟩ : ∃ x, f (k-1) = x := ⟨_, rfl⟩
      rw [hx] at hc1
      have HX := Lib.hid hx
      clear hx hcell h
      have hkz : ((k : Int) - 1).toNat = k - 1 := by omega
      go_wp2
      · have hx0 : x = 0 := by
          have h0 : ((x : Int) == 0) = true := by assumption
          simpa using h0
        go_round
        case rel =>
          refine ⟨k - 1, by omega, rfl, fun j h1 h2 => ?_⟩
          rcases Nat.lt_or_ge j k with h | h
          · rw [show j = k - 1 from by omega, HX.out, hx0]
          · exact HZ.out j h h2
        case measure => simp; omega
      · have hx0 : x ≠ 0 := by
          have h0 : ((x : Int) == 0) = false := by assumption
          simpa using h0
        go_ret
        exact ⟨by rw [tl_unique hk HZ.out (fun _ => by rw [HX.out]; exact hx0)]; rfl, rfl⟩
    · obtain rfl : k = 0 := by omega
      go_wp2
      go_ret
      exact ⟨by rw [tl_unique hk HZ.out (fun h => absurd h (Nat.lt_irrefl 0))]; rfl, rfl⟩
end Go.Proofs.Ytoifjkandmnakaa
