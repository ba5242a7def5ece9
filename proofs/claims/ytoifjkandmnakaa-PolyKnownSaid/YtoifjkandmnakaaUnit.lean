/- The contracts of poly.unit and of the reference's leads. -/
import Derived.Test.YtoifjkandmnakaaInverse
namespace Go.Proofs.Ytoifjkandmnakaa
open Go.RowKit

/-- the inverse of the last element, and whether there is one -/
def unitF (m n : Nat) (f : Nat → Nat) : Nat × Bool := if n = 0 then (0, false) else if Nat.gcd m (f (n - 1)) = 1 then (invN (f (n - 1)) m, true) else (0, false)

theorem unitF_nil {m : Nat} {f : Nat → Nat} : unitF m 0 f = (0, false) := rfl
theorem unitF_yes {m n : Nat} {f : Nat → Nat} (hn : 0 < n) (h : Nat.gcd m (f (n - 1)) = 1) : unitF m n f = (invN (f (n - 1)) m, true) := by
  unfold unitF
  rw [if_neg (by omega), if_pos h]
theorem unitF_no {m n : Nat} {f : Nat → Nat} (hn : 0 < n) (h : Nat.gcd m (f (n - 1)) ≠ 1) : unitF m n f = (0, false) := by
  unfold unitF
  rw [if_neg (by omega), if_neg h]
/-- where there is one: what it is -/
theorem unitF_true {m n iv : Nat} {f : Nat → Nat} (h : unitF m n f = (iv, true)) (hm : 2 ≤ m) (hf : f (n - 1) < m) : 0 < n ∧ iv < m ∧ iv * f (n - 1) % m = 1 % m := by
  unfold unitF at h
  split at h
  · cases h
  · split at h
    · rename_i h1 h2
      injection h with h3 _
      subst h3
      exact ⟨by omega, (invN_spec hf hm h2).1, (invN_spec hf hm h2).2⟩
    · cases h

set_option maxHeartbeats 400000 in
theorem unit_any (m n c : Nat) (A : Option Addr) (f : Nat → Nat) (w : World) (lo hi : Nat) (h : Sq .u32 w lo hi A n f) (hn : n ≤ 1000000) (hm : 2 ≤ m) (hm2 : m ≤ 2147483647) (hf : f (n - 1) < m) :
    Calls Try.prog 45 #[.int .u32 m, .slice A n c] w (RetV w (.tuple #[.int .u32 ((unitF m n f).1 : Nat), .bool (unitF m n f).2])) := by
  by_cases hn0 : n = 0
  · subst hn0
    rw [unitF_nil]
    go_enter Try.func45, Try.ntmps45
    go_wp2
    go_ret2
    exact ⟨rfl, Below.refl _ _⟩
  obtain ⟨b, off, rfl, _, _, hcell⟩ := h.2 (by omega)
  have hc1 := hcell (n - 1) (by omega)
  have hnz : ((n : Int) == 0) = false := by simp; omega
  have hkz : ((n : Int) - 1).toNat = n - 1 := by omega
  have hI := inverse_any (f (n - 1)) m
  unfold InvErr at hI
  by_cases hg : Nat.gcd m (f (n - 1)) = 1
  · rw [unitF_yes (by omega) hg]
    have hI2 := fun w => hI w
    rw [invE_ok (fits_one.2 ⟨hf, hm, hm2⟩) hg] at hI
    obtain ⟨x, hx⟩ : ∃ x, f (n - 1) = x := ⟨_, rfl⟩
    rw [hx] at hc1 hI ⊢
    have HI := Lib.hid hI
    clear hI hI2 hx hcell h hg hf
    go_enter Try.func45, Try.ntmps45
    go_wp2_with (go_at_call 60; refine (HI.out _).mono ?_; rintro e w' ⟨hbel, rfl⟩)
    go_ret2
    exact ⟨rfl, hbel⟩
  · rw [unitF_no (by omega) hg]
    rw [invE_none (fits_one.2 ⟨hf, hm, hm2⟩) hg] at hI
    obtain ⟨x, hx⟩ : ∃ x, f (n - 1) = x := ⟨_, rfl⟩
    rw [hx] at hc1 hI
    have HI := Lib.hid hI
    clear hI hx hcell h hg hf
    go_enter Try.func45, Try.ntmps45
    go_wp2_with (go_at_call 60; refine (HI.out _).mono ?_; rintro e w' ⟨hbel, rfl⟩)
    go_ret2
    exact ⟨rfl, hbel⟩

theorem inv_yes {a m : Nat} {w : World} {f : Nat} {args : Array Value} (h : Calls Try.prog f args w (InvBool a m w)) (hg : Nat.gcd m a = 1) : Calls Try.prog f args w (RetP w (.tuple #[.int .u32 (invN a m : Nat), .bool true])) :=
  h.mono fun _ _ ⟨h1, h2⟩ => h2.elim (fun h => ⟨h.2, h1⟩) fun h => absurd hg h.1
theorem inv_no {a m : Nat} {w : World} {f : Nat} {args : Array Value} (h : Calls Try.prog f args w (InvBool a m w)) (hg : Nat.gcd m a ≠ 1) : Calls Try.prog f args w (RetP w (.tuple #[.int .u32 0, .bool false])) :=
  h.mono fun _ _ ⟨h1, h2⟩ => h2.elim (fun h => absurd h.1 hg) fun h => ⟨h.2, h1⟩

set_option maxHeartbeats 400000 in
theorem leads_any (m n c : Nat) (A : Option Addr) (f : Nat → Nat) (w : World) (lo hi : Nat) (h : Sq .u32 w lo hi A n f) (hn : n ≤ 1000000) (hm : 2 ≤ m) (hm2 : m ≤ 2147483647) (hf : f (n - 1) < m) :
    Calls Try.prog 48 #[.int .u32 m, .slice A n c] w (RetP w (.tuple #[.int .u32 ((unitF m n f).1 : Nat), .bool (unitF m n f).2])) := by
  by_cases hn0 : n = 0
  · subst hn0
    rw [unitF_nil]
    go_enter Try.func48, Try.ntmps48
    go_wp2
    go_ret2
    exact ⟨rfl, rfl⟩
  obtain ⟨b, off, rfl, _, _, hcell⟩ := h.2 (by omega)
  have hc1 := hcell (n - 1) (by omega)
  have hnz : ((n : Int) == 0) = false := by simp; omega
  have hkz : ((n : Int) - 1).toNat = n - 1 := by omega
  have hI := rinverse_any (f (n - 1)) m w hf hm hm2
  by_cases hg : Nat.gcd m (f (n - 1)) = 1
  · rw [unitF_yes (by omega) hg]
    obtain ⟨x, hx⟩ : ∃ x, f (n - 1) = x := ⟨_, rfl⟩
    rw [hx] at hc1 hI hg ⊢
    have HI := Lib.hid hI
    have HG := Lib.hid hg
    clear hI hx hcell h hg hf
    go_enter Try.func48, Try.ntmps48
    go_wp2_with (go_at_call 40; refine (inv_yes HI.out HG.out).mono ?_; rintro e w' ⟨rfl, rfl⟩)
    go_ret2
    exact ⟨rfl, rfl⟩
  · rw [unitF_no (by omega) hg]
    obtain ⟨x, hx⟩ : ∃ x, f (n - 1) = x := ⟨_, rfl⟩
    rw [hx] at hc1 hI hg
    have HI := Lib.hid hI
    have HG := Lib.hid hg
    clear hI hx hcell h hg hf
    go_enter Try.func48, Try.ntmps48
    go_wp2_with (go_at_call 40; refine (inv_no HI.out HG.out).mono ?_; rintro e w' ⟨rfl, rfl⟩)
    go_ret2
    exact ⟨rfl, rfl⟩
end Go.Proofs.Ytoifjkandmnakaa
