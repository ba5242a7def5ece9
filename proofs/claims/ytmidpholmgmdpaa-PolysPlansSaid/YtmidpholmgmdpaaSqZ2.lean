/- A slice of signed numbers that came in, with its capacity. -/
import Derived.Test.YtmidpholmgmdpaaSqZArg
namespace Go.Proofs.Ytmidpholmgmdpaa
open Go.RowKit
set_option linter.unusedVariables false

theorem sqz_arg2 {w : World} {a : Option Addr} {len cap : Nat} {zs : List Int}
    (h : (a = none ∧ len = 0 ∧ cap = 0 ∧ zs = []) ∨ ∃ x, a = some x ∧ len ≤ cap ∧ cap ≤ maxLen ∧ zs.length = cap ∧ (∀ i, i < zs.length → w.cell? (x.add i) = some (.int .i64 (zs.getD i 0))) ∧ ∀ n ∈ zs, (Lit.int .i64 n).wf = true) :
    ∃ f, Z.Sq .i64 w 0 w.heap.size a len f ∧ len ≤ cap ∧ cap ≤ 9223372036854775807 := by
  obtain ⟨f, h1, _⟩ := sqz_arg h
  refine ⟨f, h1, ?_⟩
  rcases h with ⟨_, rfl, rfl, _⟩ | ⟨x, _, hl, hm, _⟩
  · exact ⟨Nat.le_refl _, Nat.zero_le _⟩
  · exact ⟨hl, by unfold maxLen at hm; omega⟩
end Go.Proofs.Ytmidpholmgmdpaa
