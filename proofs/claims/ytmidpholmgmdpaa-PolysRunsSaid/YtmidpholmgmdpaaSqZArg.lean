/- A slice of signed numbers that came in, told by a function. -/
import Derived.Test.YtmidpholmgmdpaaRMod7
import Derived.Test.YtmidpholmgmdpaaPow
namespace Go.Proofs.Ytmidpholmgmdpaa
open Go.RowKit
set_option linter.unusedVariables false

theorem sqz_arg {w : World} {a : Option Addr} {len cap : Nat} {zs : List Int}
    (h : (a = none ∧ len = 0 ∧ cap = 0 ∧ zs = []) ∨ ∃ x, a = some x ∧ len ≤ cap ∧ cap ≤ maxLen ∧ zs.length = cap ∧ (∀ i, i < zs.length → w.cell? (x.add i) = some (.int .i64 (zs.getD i 0))) ∧ ∀ n ∈ zs, (Lit.int .i64 n).wf = true) :
    ∃ f, Z.Sq .i64 w 0 w.heap.size a len f ∧ len ≤ 9223372036854775807 := by
  rcases h with ⟨rfl, rfl, rfl, rfl⟩ | ⟨x, rfl, hl, hm, hz, hc, hw⟩
  · exact ⟨fun _ => 0, Z.Sq.nil _ _ _ _ _, by omega⟩
  · refine ⟨fun j => if j < len then zs.getD j 0 else 0, ⟨fun j hj => if_neg (by omega), fun hn => ?_⟩, by unfold maxLen at hm; omega⟩
    obtain ⟨b, off, spot⟩ := x
    have h0 := hc 0 (by omega)
    have hspot : spot = none := by simpa [Addr.add] using World.cell?_spot h0
    subst hspot
    refine ⟨b, off, rfl, Nat.zero_le _, by simpa [Addr.add] using World.block_lt_of_cell? w _ h0, fun j hj => ?_⟩
    have e1 : (⟨b, off, none⟩ : Addr).add j = ⟨b, off + j, none⟩ := by
      unfold Addr.add
      split
      · simp
      · rfl
    have h1 := hc j (by omega)
    rw [e1] at h1
    rw [h1]
    show some (Value.int .i64 (zs.getD j 0)) = some (.int .i64 (if j < len then zs.getD j 0 else 0))
    rw [if_pos hj]
end Go.Proofs.Ytmidpholmgmdpaa
