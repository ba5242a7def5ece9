/- Numbers that came in. -/
import Derived.Test.YtbajapjaejpcjaaBase
namespace Go.Proofs.Ytbajapjaejpcjaa
open Go.RowKit
theorem u32_arg {a : Int} (h : (Lit.int .u32 a).wf = true) : ∃ m : Nat, a = (m : Int) ∧ m ≤ 4294967295 := by
  simp [Lit.wf, IntKind.min, IntKind.max, IntKind.signed, IntKind.bits] at h
  exact ⟨a.toNat, by omega, by omega⟩
theorem u64_arg {a : Int} (h : (Lit.int .u64 a).wf = true) : ∃ m : Nat, a = (m : Int) ∧ m < 18446744073709551616 := by
  simp [Lit.wf, IntKind.min, IntKind.max, IntKind.signed, IntKind.bits] at h
  exact ⟨a.toNat, by omega, by omega⟩
theorem i64_arg {a : Int} (h : (Lit.int .i64 a).wf = true) : -9223372036854775808 ≤ a ∧ a ≤ 9223372036854775807 := by
  simp [Lit.wf, IntKind.min, IntKind.max, IntKind.signed, IntKind.bits] at h
  omega
end Go.Proofs.Ytbajapjaejpcjaa
