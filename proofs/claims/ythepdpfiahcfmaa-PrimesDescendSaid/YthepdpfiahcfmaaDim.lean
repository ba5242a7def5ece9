/- The contracts of the two functions named dimension. -/
import Derived.Test.YthepdpfiahcfmaaRet
namespace Go.Proofs.Ythepdpfiahcfmaa
open Go.RowKit
set_option linter.unusedVariables false

def dimB (n : Int) : Bool := n == 4 || n == 8 || n == 16 || n == 32
theorem dimB_iff {n : Int} : dimB n = true ↔ n = 4 ∨ n = 8 ∨ n = 16 ∨ n = 32 := by unfold dimB; simp [or_assoc]
theorem dim_cases (n : Int) : (n = 4 ∧ dimB n = true) ∨ (n = 8 ∧ dimB n = true) ∨ (n = 16 ∧ dimB n = true) ∨ (n = 32 ∧ dimB n = true) ∨ ((n == 4) = false ∧ (n == 8) = false ∧ (n == 16) = false ∧ (n == 32) = false ∧ dimB n = false) := by
  by_cases h1 : n = 4
  · exact .inl ⟨h1, by rw [h1]; rfl⟩
  by_cases h2 : n = 8
  · exact .inr (.inl ⟨h2, by rw [h2]; rfl⟩)
  by_cases h3 : n = 16
  · exact .inr (.inr (.inl ⟨h3, by rw [h3]; rfl⟩))
  by_cases h4 : n = 32
  · exact .inr (.inr (.inr (.inl ⟨h4, by rw [h4]; rfl⟩)))
  exact .inr (.inr (.inr (.inr ⟨by simpa using h1, by simpa using h2, by simpa using h3, by simpa using h4, by unfold dimB; simp [h1, h2, h3, h4]⟩)))

set_option maxHeartbeats 400000 in
theorem dim_any (n : Int) (w : World) : Calls Try.prog 24 #[.int .i64 n] w (RetP w (.bool (dimB n))) := by
  rcases dim_cases n with ⟨rfl, h⟩ | ⟨rfl, h⟩ | ⟨rfl, h⟩ | ⟨rfl, h⟩ | ⟨h1, h2, h3, h4, h⟩
  all_goals
    have HD := Lib.hid h
    clear h
    go_enter Try.func24, Try.ntmps24
    go_wp2
    go_ret
    exact ⟨by rw [HD.out]; rfl, rfl⟩
set_option maxHeartbeats 400000 in
theorem rdim_any (n : Int) (w : World) : Calls Try.prog 25 #[.int .i64 n] w (RetP w (.bool (dimB n))) := by
  rcases dim_cases n with ⟨rfl, h⟩ | ⟨rfl, h⟩ | ⟨rfl, h⟩ | ⟨rfl, h⟩ | ⟨h1, h2, h3, h4, h⟩
  all_goals
    have HD := Lib.hid h
    clear h
    go_enter Try.func25, Try.ntmps25
    go_wp2
    go_ret
    exact ⟨by rw [HD.out]; rfl, rfl⟩
theorem dim_b (n : Int) {b : Bool} (hb : dimB n = b) (w : World) : Calls Try.prog 24 #[.int .i64 n] w (RetP w (.bool b)) := by
  subst hb
  exact dim_any n w
theorem rdim_b (n : Int) {b : Bool} (hb : dimB n = b) (w : World) : Calls Try.prog 25 #[.int .i64 n] w (RetP w (.bool b)) := by
  subst hb
  exact rdim_any n w
end Go.Proofs.Ythepdpfiahcfmaa
