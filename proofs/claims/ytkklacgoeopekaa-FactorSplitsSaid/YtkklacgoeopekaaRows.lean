/-
  No cell of these rows narrows 'for every input' (looked for: loops, veiled, ifaces, maps, wideKeys, modest, calm, conditions, laid).
  DERIVED. THE GIVEN ROWS OF THIS SEAT. 7 by the template 'for every input the law returns true; each argument reads behind the call as it read before'; 0 by the template 'total and deterministic' (their statements: YtkklacgoeopekaaTotals.lean).
  GIVEN WITH THE SEED: the statements are not yours to turn. If you find one false, say at which input.
  Laid BY PROGRAM, IN A SANDBOX (cutbox-rows.mjs): the forced cells as the released guide's own fill.sh prints them over the translation 614d8b1d1e1e6dce… (all of the seat's roots in one cut). By AI agents, Wed Nov 11 2026. No macro, syntax, notation, axiom, sorry.
-/
import Derived.Test.YtkklacgoeopekaaChecked
import GoSem.Claim
import GoSem.ClaimJoined
import GoSem.ClaimMapViews
import Derived.JoinedTies
import Derived.KernelRfl
namespace Go.Proofs.Ytkklacgoeopekaa
/- THE CELL 'sum', in the pinned program and in every row, IS THE sha256 OF THE DUMP (.gsa) THAT YtkklacgoeopekaaProg.lean LOADS. Nothing in Lean hashes anything: it is a label: what it is worth is what the hold of that sum in a sandbox is worth. -/
noncomputable def Try.pinned : Pinned := { name := "ytkklacgoeopekaa", sum := "614d8b1d1e1e6dcea69b8a63e7e40191f9155cd56dbb4908ecd376b8f3f11006", checked := Try.checked }
namespace Rows
def none {H : Type} : Left H := { results := [], args := [] }

/-- 'obscuralaw07.FactorLinear': WHATEVER THE INPUT: true; the input reads as it did. -/
def factorLinearSpec : ChangeSpec := { name := "factorLinear", fn := fun _ => fun
  | [d1, d2] => { results := [.lit (.bool true)], args := [d1, d2] }
  | _ => none }
def factorLinearRow : OpenClaim := { program := "ytkklacgoeopekaa", sum := "614d8b1d1e1e6dcea69b8a63e7e40191f9155cd56dbb4908ecd376b8f3f11006", func := "obscura/obscuralaw07.FactorLinear", spec := "factorLinear", unfollowed := true, recurses := true, apart := false }
def FactorLinearSaid : Prop := factorLinearRow.holds Try.pinned (OpenSpec.ofChange factorLinearSpec)

/-- ITS FALSE NEIGHBOUR: 'it returns false'. Refute it at one input. -/
def factorLinearWrong : ChangeSpec := { name := "factorLinear", fn := fun _ => fun
  | [d1, d2] => { results := [.lit (.bool false)], args := [d1, d2] }
  | _ => none }
def FactorLinearWrongFalsely : Prop := factorLinearRow.holds Try.pinned (OpenSpec.ofChange factorLinearWrong)

/-- 'obscuralaw07.FactorKnown': WHATEVER THE INPUT: true; the input reads as it did. -/
def factorKnownSpec : ChangeSpec := { name := "factorKnown", fn := fun _ => fun
  | [] => { results := [.lit (.bool true)], args := [] }
  | _ => none }
def factorKnownRow : OpenClaim := { program := "ytkklacgoeopekaa", sum := "614d8b1d1e1e6dcea69b8a63e7e40191f9155cd56dbb4908ecd376b8f3f11006", func := "obscura/obscuralaw07.FactorKnown", spec := "factorKnown", unfollowed := true, recurses := true, apart := false }
def FactorKnownSaid : Prop := factorKnownRow.holds Try.pinned (OpenSpec.ofChange factorKnownSpec)

/-- ITS FALSE NEIGHBOUR: 'it returns false'. Refute it at one input. -/
def factorKnownWrong : ChangeSpec := { name := "factorKnown", fn := fun _ => fun
  | [] => { results := [.lit (.bool false)], args := [] }
  | _ => none }
def FactorKnownWrongFalsely : Prop := factorKnownRow.holds Try.pinned (OpenSpec.ofChange factorKnownWrong)

/-- 'obscuralaw07.FactorDegrees': WHATEVER THE INPUT: true; the input reads as it did. -/
def factorDegreesSpec : ChangeSpec := { name := "factorDegrees", fn := fun _ => fun
  | [d1, d2] => { results := [.lit (.bool true)], args := [d1, d2] }
  | _ => none }
def factorDegreesRow : OpenClaim := { program := "ytkklacgoeopekaa", sum := "614d8b1d1e1e6dcea69b8a63e7e40191f9155cd56dbb4908ecd376b8f3f11006", func := "obscura/obscuralaw07.FactorDegrees", spec := "factorDegrees", unfollowed := true, recurses := true, apart := false }
def FactorDegreesSaid : Prop := factorDegreesRow.holds Try.pinned (OpenSpec.ofChange factorDegreesSpec)

/-- ITS FALSE NEIGHBOUR: 'it returns false'. Refute it at one input. -/
def factorDegreesWrong : ChangeSpec := { name := "factorDegrees", fn := fun _ => fun
  | [d1, d2] => { results := [.lit (.bool false)], args := [d1, d2] }
  | _ => none }
def FactorDegreesWrongFalsely : Prop := factorDegreesRow.holds Try.pinned (OpenSpec.ofChange factorDegreesWrong)

/-- 'obscuralaw07.FactorSplits': WHATEVER THE INPUT: true; the input reads as it did. -/
def factorSplitsSpec : ChangeSpec := { name := "factorSplits", fn := fun _ => fun
  | [d1, d2] => { results := [.lit (.bool true)], args := [d1, d2] }
  | _ => none }
def factorSplitsRow : OpenClaim := { program := "ytkklacgoeopekaa", sum := "614d8b1d1e1e6dcea69b8a63e7e40191f9155cd56dbb4908ecd376b8f3f11006", func := "obscura/obscuralaw07.FactorSplits", spec := "factorSplits", unfollowed := true, recurses := true, apart := false }
def FactorSplitsSaid : Prop := factorSplitsRow.holds Try.pinned (OpenSpec.ofChange factorSplitsSpec)

/-- ITS FALSE NEIGHBOUR: 'it returns false'. Refute it at one input. -/
def factorSplitsWrong : ChangeSpec := { name := "factorSplits", fn := fun _ => fun
  | [d1, d2] => { results := [.lit (.bool false)], args := [d1, d2] }
  | _ => none }
def FactorSplitsWrongFalsely : Prop := factorSplitsRow.holds Try.pinned (OpenSpec.ofChange factorSplitsWrong)

/-- 'obscuralaw07.FactorRoots': WHATEVER THE INPUT: true; the input reads as it did. -/
def factorRootsSpec : ChangeSpec := { name := "factorRoots", fn := fun _ => fun
  | [d1, d2, d3] => { results := [.lit (.bool true)], args := [d1, d2, d3] }
  | _ => none }
def factorRootsRow : OpenClaim := { program := "ytkklacgoeopekaa", sum := "614d8b1d1e1e6dcea69b8a63e7e40191f9155cd56dbb4908ecd376b8f3f11006", func := "obscura/obscuralaw07.FactorRoots", spec := "factorRoots", unfollowed := true, recurses := true, apart := false }
def FactorRootsSaid : Prop := factorRootsRow.holds Try.pinned (OpenSpec.ofChange factorRootsSpec)

/-- ITS FALSE NEIGHBOUR: 'it returns false'. Refute it at one input. -/
def factorRootsWrong : ChangeSpec := { name := "factorRoots", fn := fun _ => fun
  | [d1, d2, d3] => { results := [.lit (.bool false)], args := [d1, d2, d3] }
  | _ => none }
def FactorRootsWrongFalsely : Prop := factorRootsRow.holds Try.pinned (OpenSpec.ofChange factorRootsWrong)

/-- 'obscuralaw07.FactorLifts': WHATEVER THE INPUT: true; the input reads as it did. -/
def factorLiftsSpec : ChangeSpec := { name := "factorLifts", fn := fun _ => fun
  | [d] => { results := [.lit (.bool true)], args := [d] }
  | _ => none }
def factorLiftsRow : OpenClaim := { program := "ytkklacgoeopekaa", sum := "614d8b1d1e1e6dcea69b8a63e7e40191f9155cd56dbb4908ecd376b8f3f11006", func := "obscura/obscuralaw07.FactorLifts", spec := "factorLifts", unfollowed := true, recurses := true, apart := false }
def FactorLiftsSaid : Prop := factorLiftsRow.holds Try.pinned (OpenSpec.ofChange factorLiftsSpec)

/-- ITS FALSE NEIGHBOUR: 'it returns false'. Refute it at one input. -/
def factorLiftsWrong : ChangeSpec := { name := "factorLifts", fn := fun _ => fun
  | [d] => { results := [.lit (.bool false)], args := [d] }
  | _ => none }
def FactorLiftsWrongFalsely : Prop := factorLiftsRow.holds Try.pinned (OpenSpec.ofChange factorLiftsWrong)

/-- 'obscuralaw07.FactorPowers': WHATEVER THE INPUT: true; the input reads as it did. -/
def factorPowersSpec : ChangeSpec := { name := "factorPowers", fn := fun _ => fun
  | [d1, d2, d3] => { results := [.lit (.bool true)], args := [d1, d2, d3] }
  | _ => none }
def factorPowersRow : OpenClaim := { program := "ytkklacgoeopekaa", sum := "614d8b1d1e1e6dcea69b8a63e7e40191f9155cd56dbb4908ecd376b8f3f11006", func := "obscura/obscuralaw07.FactorPowers", spec := "factorPowers", unfollowed := true, recurses := true, apart := false }
def FactorPowersSaid : Prop := factorPowersRow.holds Try.pinned (OpenSpec.ofChange factorPowersSpec)

/-- ITS FALSE NEIGHBOUR: 'it returns false'. Refute it at one input. -/
def factorPowersWrong : ChangeSpec := { name := "factorPowers", fn := fun _ => fun
  | [d1, d2, d3] => { results := [.lit (.bool false)], args := [d1, d2, d3] }
  | _ => none }
def FactorPowersWrongFalsely : Prop := factorPowersRow.holds Try.pinned (OpenSpec.ofChange factorPowersWrong)

/- THE SECOND FORM. 'bulk': how many values and letters a reading holds, each counted each time it is reached (what is shared counts as often as it is met; a slice's spare places count too). A statement '..UptoSaid' is the law's where the arguments, and the package variables that the reading takes, are together of bulk at most 1048576: NARROWER than '..Said'. Prove '..Said' where nothing that the law and all that it calls make is longer than what came in: it says more and counts as full. Else prove '..UptoSaid'. A law counts once. -/
mutual
def uptoBulk {H : Type} : DataW H → Nat
  | .lit (.string bytes) => bytes.length + 1
  | .lit _ => 1
  | .nil => 1
  | .ptr d => uptoBulk d + 1
  | .slice elems spare => uptoBulkAll elems + uptoBulkAll spare + 1
  | .agg parts => uptoBulkAll parts + 1
  | .iface _ d => uptoBulk d + 1
  | .map entries => uptoBulkEntries entries + 1
  | .held _ => 1
def uptoBulkAll {H : Type} : List (DataW H) → Nat
  | [] => 0
  | d :: r => uptoBulk d + uptoBulkAll r
def uptoBulkEntries {H : Type} : List (Lit × DataW H) → Nat
  | [] => 0
  | x :: r => uptoBulkEntry x + uptoBulkEntries r
def uptoBulkEntry {H : Type} : Lit × DataW H → Nat
  | (.string bytes, d) => bytes.length + uptoBulk d + 1
  | (_, d) => uptoBulk d + 1
 end
def uptoSmall : (H : Type) → List (DataW H) → Bool := fun _ ds => decide (uptoBulkAll ds ≤ 1048576)
def OpenSpec.upto (s : _root_.Go.ChangeSpec) : _root_.Go.OpenSpec := { _root_.Go.OpenSpec.ofChange s with cond := some uptoSmall }

/-- 'obscuralaw07.FactorLinear', WHERE WHAT IT READS IS OF BULK AT MOST 1048576: true; the input reads as it did. -/
def factorLinearUptoRow : OpenClaim := { program := "ytkklacgoeopekaa", sum := "614d8b1d1e1e6dcea69b8a63e7e40191f9155cd56dbb4908ecd376b8f3f11006", func := "obscura/obscuralaw07.FactorLinear", spec := "factorLinear", unfollowed := true, recurses := true, apart := false, narrowed := true }
def FactorLinearUptoSaid : Prop := factorLinearUptoRow.holds Try.pinned (OpenSpec.upto factorLinearSpec)

/-- 'obscuralaw07.FactorKnown', WHERE WHAT IT READS IS OF BULK AT MOST 1048576: true; the input reads as it did. -/
def factorKnownUptoRow : OpenClaim := { program := "ytkklacgoeopekaa", sum := "614d8b1d1e1e6dcea69b8a63e7e40191f9155cd56dbb4908ecd376b8f3f11006", func := "obscura/obscuralaw07.FactorKnown", spec := "factorKnown", unfollowed := true, recurses := true, apart := false, narrowed := true }
def FactorKnownUptoSaid : Prop := factorKnownUptoRow.holds Try.pinned (OpenSpec.upto factorKnownSpec)

/-- 'obscuralaw07.FactorDegrees', WHERE WHAT IT READS IS OF BULK AT MOST 1048576: true; the input reads as it did. -/
def factorDegreesUptoRow : OpenClaim := { program := "ytkklacgoeopekaa", sum := "614d8b1d1e1e6dcea69b8a63e7e40191f9155cd56dbb4908ecd376b8f3f11006", func := "obscura/obscuralaw07.FactorDegrees", spec := "factorDegrees", unfollowed := true, recurses := true, apart := false, narrowed := true }
def FactorDegreesUptoSaid : Prop := factorDegreesUptoRow.holds Try.pinned (OpenSpec.upto factorDegreesSpec)

/-- 'obscuralaw07.FactorSplits', WHERE WHAT IT READS IS OF BULK AT MOST 1048576: true; the input reads as it did. -/
def factorSplitsUptoRow : OpenClaim := { program := "ytkklacgoeopekaa", sum := "614d8b1d1e1e6dcea69b8a63e7e40191f9155cd56dbb4908ecd376b8f3f11006", func := "obscura/obscuralaw07.FactorSplits", spec := "factorSplits", unfollowed := true, recurses := true, apart := false, narrowed := true }
def FactorSplitsUptoSaid : Prop := factorSplitsUptoRow.holds Try.pinned (OpenSpec.upto factorSplitsSpec)

/-- 'obscuralaw07.FactorRoots', WHERE WHAT IT READS IS OF BULK AT MOST 1048576: true; the input reads as it did. -/
def factorRootsUptoRow : OpenClaim := { program := "ytkklacgoeopekaa", sum := "614d8b1d1e1e6dcea69b8a63e7e40191f9155cd56dbb4908ecd376b8f3f11006", func := "obscura/obscuralaw07.FactorRoots", spec := "factorRoots", unfollowed := true, recurses := true, apart := false, narrowed := true }
def FactorRootsUptoSaid : Prop := factorRootsUptoRow.holds Try.pinned (OpenSpec.upto factorRootsSpec)

/-- 'obscuralaw07.FactorLifts', WHERE WHAT IT READS IS OF BULK AT MOST 1048576: true; the input reads as it did. -/
def factorLiftsUptoRow : OpenClaim := { program := "ytkklacgoeopekaa", sum := "614d8b1d1e1e6dcea69b8a63e7e40191f9155cd56dbb4908ecd376b8f3f11006", func := "obscura/obscuralaw07.FactorLifts", spec := "factorLifts", unfollowed := true, recurses := true, apart := false, narrowed := true }
def FactorLiftsUptoSaid : Prop := factorLiftsUptoRow.holds Try.pinned (OpenSpec.upto factorLiftsSpec)

/-- 'obscuralaw07.FactorPowers', WHERE WHAT IT READS IS OF BULK AT MOST 1048576: true; the input reads as it did. -/
def factorPowersUptoRow : OpenClaim := { program := "ytkklacgoeopekaa", sum := "614d8b1d1e1e6dcea69b8a63e7e40191f9155cd56dbb4908ecd376b8f3f11006", func := "obscura/obscuralaw07.FactorPowers", spec := "factorPowers", unfollowed := true, recurses := true, apart := false, narrowed := true }
def FactorPowersUptoSaid : Prop := factorPowersUptoRow.holds Try.pinned (OpenSpec.upto factorPowersSpec)

end Rows
end Go.Proofs.Ytkklacgoeopekaa
