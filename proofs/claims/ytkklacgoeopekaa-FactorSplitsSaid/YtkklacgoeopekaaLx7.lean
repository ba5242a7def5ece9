/- slices.Compare is a strict weak order. No program in sight. -/
import Derived.Test.YtkklacgoeopekaaSo7
import Derived.Sort.Statements
namespace Go.Proofs.Ytkklacgoeopekaa
open Go.RowKit
set_option linter.unusedVariables false

theorem cmpN_neg {x y : Nat} : cmpN x y < 0 ↔ x < y := by
  unfold cmpN
  by_cases h1 : x < y
  · rw [if_pos h1]; omega
  · rw [if_neg h1]
    by_cases h2 : y < x
    · rw [if_pos h2]; omega
    · rw [if_neg h2]; omega
theorem cmpN_zero {x y : Nat} : cmpN x y = 0 ↔ x = y := by
  unfold cmpN
  by_cases h1 : x < y
  · rw [if_pos h1]; omega
  · rw [if_neg h1]
    by_cases h2 : y < x
    · rw [if_pos h2]; omega
    · rw [if_neg h2]; omega
theorem cmpL_cons {x y : Nat} {a b : List Nat} : cmpL (x :: a) (y :: b) < 0 ↔ x < y ∨ (x = y ∧ cmpL a b < 0) := by
  show (if cmpN x y ≠ 0 then cmpN x y else cmpL a b) < 0 ↔ _
  by_cases h : x = y
  · rw [if_neg (by have := (cmpN_zero (x := x) (y := y)).2 h; omega)]
    constructor
    · intro h1; exact .inr ⟨h, h1⟩
    · rintro (h1 | ⟨_, h1⟩)
      · omega
      · exact h1
  · rw [if_pos (fun e => h (cmpN_zero.1 e)), cmpN_neg]
    constructor
    · intro h1; exact .inl h1
    · rintro (h1 | ⟨h1, _⟩)
      · exact h1
      · exact absurd h1 h
theorem cmpL_irr : ∀ a : List Nat, ¬ cmpL a a < 0
  | [] => by show ¬ ((0 : Int) < 0); omega
  | x :: a => by
    rw [cmpL_cons]
    rintro (h | ⟨_, h⟩)
    · omega
    · exact cmpL_irr a h
theorem cmpL_trans : ∀ a b c : List Nat, cmpL a b < 0 → cmpL b c < 0 → cmpL a c < 0
  | [], [], c, h, _ => by exact absurd h (cmpL_irr [])
  | [], y :: b, [], _, h => by have h2 : (1 : Int) < 0 := h; omega
  | [], y :: b, z :: c, _, _ => by show (-1 : Int) < 0; omega
  | x :: a, [], c, h, _ => by have h2 : (1 : Int) < 0 := h; omega
  | x :: a, y :: b, [], _, h => by have h2 : (1 : Int) < 0 := h; omega
  | x :: a, y :: b, z :: c, h1, h2 => by
    rw [cmpL_cons] at h1 h2 ⊢
    rcases h1 with h1 | ⟨e1, h1⟩
    · rcases h2 with h2 | ⟨e2, h2⟩
      · exact .inl (by omega)
      · exact .inl (by omega)
    · rcases h2 with h2 | ⟨e2, h2⟩
      · exact .inl (by omega)
      · exact .inr ⟨by omega, cmpL_trans a b c h1 h2⟩
theorem cmpL_ntrans : ∀ a b c : List Nat, ¬ cmpL a b < 0 → ¬ cmpL b c < 0 → ¬ cmpL a c < 0
  | [], [], c, _, h => h
  | [], y :: b, c, h, _ => absurd (by show (-1 : Int) < 0; omega) h
  | x :: a, b, [], _, _ => by show ¬ ((1 : Int) < 0); omega
  | x :: a, [], z :: c, _, h => absurd (by show (-1 : Int) < 0; omega) h
  | x :: a, y :: b, z :: c, h1, h2 => by
    rw [cmpL_cons] at h1 h2 ⊢
    rintro (h3 | ⟨e3, h3⟩)
    · rcases Nat.lt_trichotomy x y with h4 | h4 | h4
      · exact h1 (.inl h4)
      · exact h2 (.inl (by omega))
      · exact h2 (.inl (by omega))
    · rcases Nat.lt_trichotomy x y with h4 | h4 | h4
      · exact h1 (.inl h4)
      · exact cmpL_ntrans a b c (fun h5 => h1 (.inr ⟨h4, h5⟩)) (fun h5 => h2 (.inr ⟨by omega, h5⟩)) h3
      · exact h2 (.inl (by omega))
end Go.Proofs.Ytkklacgoeopekaa
