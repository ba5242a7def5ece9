/- A slice of numbers that came in, told by a function. -/
import Derived.Test.YtcnkddoipmaddaaSqZArg
namespace Go.Proofs.Ytcnkddoipmaddaa
open Go.RowKit
set_option linter.unusedVariables false

theorem sq_arg {w : World} {a : Option Addr} {len cap : Nat} {zs : List Int}
    (h : (a = none ∧ len = 0 ∧ cap = 0 ∧ zs = []) ∨ ∃ x, a = some x ∧ len ≤ cap ∧ cap ≤ maxLen ∧ zs.length = cap ∧ (∀ i, i < zs.length → w.cell? (x.add i) = some (.int .u32 (zs.getD i 0))) ∧ ∀ n ∈ zs, (Lit.int .u32 n).wf = true) :
    ∃ f, Sq .u32 w 0 w.heap.size a len f ∧ (∀ j, f j ≤ 4294967295) ∧ len ≤ 9223372036854775807 := by
  rcases h with ⟨rfl, rfl, rfl, rfl⟩ | ⟨x, rfl, hl, hm, hz, hc, hw⟩
  · exact ⟨fun _ => 0, Sq.nil _ _ _ _ _, fun _ => Nat.zero_le _, by omega⟩
  · have hbd : ∀ j, j < len → 0 ≤ zs.getD j 0 ∧ zs.getD j 0 ≤ 4294967295 := by
      intro j hj
      have hjl : j < zs.length := by omega
      have := hw (zs.getD j 0) (by rw [List.getD_eq_getElem?_getD, List.getElem?_eq_getElem hjl]; exact List.getElem_mem hjl)
      simp [Lit.wf, IntKind.min, IntKind.max, IntKind.signed, IntKind.bits] at this
      simpa using this
    refine ⟨fun j => if j < len then (zs.getD j 0).toNat else 0, ⟨fun j hj => if_neg (by omega), fun hn => ?_⟩, fun j => ?_, by unfold maxLen at hm; omega⟩
    · obtain ⟨b, off, spot⟩ := x
      have h0 := hc 0 (by omega)
      have hspot : spot = none := by simpa [Addr.add] using World.cell?_spot h0
      subst hspot
      refine ⟨b, off, rfl, Nat.zero_le _, by simpa [Addr.add] using World.block_lt_of_cell? w _ h0, fun j hj => ?_⟩
      have e1 : (⟨b, off, none⟩ : Addr).add j = ⟨b, off + j, none⟩ := by
        unfold Addr.add
        split
        · simp
        · rfl
      have h1 := hc j (by omega)
      rw [e1] at h1
      rw [h1]
      show some (Value.int .u32 (zs.getD j 0)) = some (.int .u32 (((if j < len then (zs.getD j 0).toNat else 0 : Nat)) : Int))
      rw [if_pos hj, Int.toNat_of_nonneg (hbd j hj).1]
    · show (if j < len then (zs.getD j 0).toNat else 0) ≤ _
      split
      · have := hbd j (by assumption); omega
      · omega
end Go.Proofs.Ytcnkddoipmaddaa
