/-
  No cell of these rows narrows 'for every input' (looked for: loops, veiled, ifaces, maps, wideKeys, modest, calm, conditions, laid).
  DERIVED. THE GIVEN ROWS OF THIS SEAT. 7 by the template 'for every input the law returns true; each argument reads behind the call as it read before'; 0 by the template 'total and deterministic' (their statements: YtmidpholmgmdpaaTotals.lean).
  GIVEN WITH THE SEED: the statements are not yours to turn. If you find one false, say at which input.
  Laid BY PROGRAM, IN A SANDBOX (cutbox-rows.mjs): the forced cells as the released guide's own fill.sh prints them over the translation 5e5ba418f1a6969e… (all of the seat's roots in one cut). By AI agents, Wed Nov 11 2026. No macro, syntax, notation, axiom, sorry.
-/
import Derived.Test.YtmidpholmgmdpaaChecked
import GoSem.Claim
import GoSem.ClaimJoined
import GoSem.ClaimMapViews
import Derived.JoinedTies
import Derived.KernelRfl
namespace Go.Proofs.Ytmidpholmgmdpaa
/- THE CELL 'sum', in the pinned program and in every row, IS THE sha256 OF THE DUMP (.gsa) THAT YtmidpholmgmdpaaProg.lean LOADS. Nothing in Lean hashes anything: it is a label: what it is worth is what the hold of that sum in a sandbox is worth. -/
noncomputable def Try.pinned : Pinned := { name := "ytmidpholmgmdpaa", sum := "5e5ba418f1a6969e5249f2eac8de0bee2c8b615ca142654eec12268b451d517c", checked := Try.checked }
namespace Rows
def none {H : Type} : Left H := { results := [], args := [] }

/-- 'obscuralaw25.PolysTables': WHATEVER THE INPUT: true; the input reads as it did. -/
def polysTablesSpec : ChangeSpec := { name := "polysTables", fn := fun _ => fun
  | [d1, d2] => { results := [.lit (.bool true)], args := [d1, d2] }
  | _ => none }
def polysTablesRow : OpenClaim := { program := "ytmidpholmgmdpaa", sum := "5e5ba418f1a6969e5249f2eac8de0bee2c8b615ca142654eec12268b451d517c", func := "obscura/obscuralaw25.PolysTables", spec := "polysTables", unfollowed := true, recurses := true, apart := false }
def PolysTablesSaid : Prop := polysTablesRow.holds Try.pinned (OpenSpec.ofChange polysTablesSpec)

/-- ITS FALSE NEIGHBOUR: 'it returns false'. Refute it at one input. -/
def polysTablesWrong : ChangeSpec := { name := "polysTables", fn := fun _ => fun
  | [d1, d2] => { results := [.lit (.bool false)], args := [d1, d2] }
  | _ => none }
def PolysTablesWrongFalsely : Prop := polysTablesRow.holds Try.pinned (OpenSpec.ofChange polysTablesWrong)

/-- 'obscuralaw25.PolysThrough': WHATEVER THE INPUT: true; the input reads as it did. -/
def polysThroughSpec : ChangeSpec := { name := "polysThrough", fn := fun _ => fun
  | [d1, d2] => { results := [.lit (.bool true)], args := [d1, d2] }
  | _ => none }
def polysThroughRow : OpenClaim := { program := "ytmidpholmgmdpaa", sum := "5e5ba418f1a6969e5249f2eac8de0bee2c8b615ca142654eec12268b451d517c", func := "obscura/obscuralaw25.PolysThrough", spec := "polysThrough", unfollowed := true, recurses := true, apart := false }
def PolysThroughSaid : Prop := polysThroughRow.holds Try.pinned (OpenSpec.ofChange polysThroughSpec)

/-- ITS FALSE NEIGHBOUR: 'it returns false'. Refute it at one input. -/
def polysThroughWrong : ChangeSpec := { name := "polysThrough", fn := fun _ => fun
  | [d1, d2] => { results := [.lit (.bool false)], args := [d1, d2] }
  | _ => none }
def PolysThroughWrongFalsely : Prop := polysThroughRow.holds Try.pinned (OpenSpec.ofChange polysThroughWrong)

/-- 'obscuralaw25.PolysPlans': WHATEVER THE INPUT: true; the input reads as it did. -/
def polysPlansSpec : ChangeSpec := { name := "polysPlans", fn := fun _ => fun
  | [d1, d2] => { results := [.lit (.bool true)], args := [d1, d2] }
  | _ => none }
def polysPlansRow : OpenClaim := { program := "ytmidpholmgmdpaa", sum := "5e5ba418f1a6969e5249f2eac8de0bee2c8b615ca142654eec12268b451d517c", func := "obscura/obscuralaw25.PolysPlans", spec := "polysPlans", unfollowed := true, recurses := true, apart := false }
def PolysPlansSaid : Prop := polysPlansRow.holds Try.pinned (OpenSpec.ofChange polysPlansSpec)

/-- ITS FALSE NEIGHBOUR: 'it returns false'. Refute it at one input. -/
def polysPlansWrong : ChangeSpec := { name := "polysPlans", fn := fun _ => fun
  | [d1, d2] => { results := [.lit (.bool false)], args := [d1, d2] }
  | _ => none }
def PolysPlansWrongFalsely : Prop := polysPlansRow.holds Try.pinned (OpenSpec.ofChange polysPlansWrong)

/-- 'obscuralaw25.PolysRuns': WHATEVER THE INPUT: true; the input reads as it did. -/
def polysRunsSpec : ChangeSpec := { name := "polysRuns", fn := fun _ => fun
  | [d1, d2, d3] => { results := [.lit (.bool true)], args := [d1, d2, d3] }
  | _ => none }
def polysRunsRow : OpenClaim := { program := "ytmidpholmgmdpaa", sum := "5e5ba418f1a6969e5249f2eac8de0bee2c8b615ca142654eec12268b451d517c", func := "obscura/obscuralaw25.PolysRuns", spec := "polysRuns", unfollowed := true, recurses := true, apart := false }
def PolysRunsSaid : Prop := polysRunsRow.holds Try.pinned (OpenSpec.ofChange polysRunsSpec)

/-- ITS FALSE NEIGHBOUR: 'it returns false'. Refute it at one input. -/
def polysRunsWrong : ChangeSpec := { name := "polysRuns", fn := fun _ => fun
  | [d1, d2, d3] => { results := [.lit (.bool false)], args := [d1, d2, d3] }
  | _ => none }
def PolysRunsWrongFalsely : Prop := polysRunsRow.holds Try.pinned (OpenSpec.ofChange polysRunsWrong)

/-- 'obscuralaw25.PolysValues': WHATEVER THE INPUT: true; the input reads as it did. -/
def polysValuesSpec : ChangeSpec := { name := "polysValues", fn := fun _ => fun
  | [d1, d2, d3] => { results := [.lit (.bool true)], args := [d1, d2, d3] }
  | _ => none }
def polysValuesRow : OpenClaim := { program := "ytmidpholmgmdpaa", sum := "5e5ba418f1a6969e5249f2eac8de0bee2c8b615ca142654eec12268b451d517c", func := "obscura/obscuralaw25.PolysValues", spec := "polysValues", unfollowed := true, recurses := true, apart := false }
def PolysValuesSaid : Prop := polysValuesRow.holds Try.pinned (OpenSpec.ofChange polysValuesSpec)

/-- ITS FALSE NEIGHBOUR: 'it returns false'. Refute it at one input. -/
def polysValuesWrong : ChangeSpec := { name := "polysValues", fn := fun _ => fun
  | [d1, d2, d3] => { results := [.lit (.bool false)], args := [d1, d2, d3] }
  | _ => none }
def PolysValuesWrongFalsely : Prop := polysValuesRow.holds Try.pinned (OpenSpec.ofChange polysValuesWrong)

/-- 'obscuralaw25.PolysCompares': WHATEVER THE INPUT: true; the input reads as it did. -/
def polysComparesSpec : ChangeSpec := { name := "polysCompares", fn := fun _ => fun
  | [d1, d2] => { results := [.lit (.bool true)], args := [d1, d2] }
  | _ => none }
def polysComparesRow : OpenClaim := { program := "ytmidpholmgmdpaa", sum := "5e5ba418f1a6969e5249f2eac8de0bee2c8b615ca142654eec12268b451d517c", func := "obscura/obscuralaw25.PolysCompares", spec := "polysCompares", unfollowed := true, recurses := true, apart := false }
def PolysComparesSaid : Prop := polysComparesRow.holds Try.pinned (OpenSpec.ofChange polysComparesSpec)

/-- ITS FALSE NEIGHBOUR: 'it returns false'. Refute it at one input. -/
def polysComparesWrong : ChangeSpec := { name := "polysCompares", fn := fun _ => fun
  | [d1, d2] => { results := [.lit (.bool false)], args := [d1, d2] }
  | _ => none }
def PolysComparesWrongFalsely : Prop := polysComparesRow.holds Try.pinned (OpenSpec.ofChange polysComparesWrong)

/-- 'obscuralaw25.PolysKnown': WHATEVER THE INPUT: true; the input reads as it did. -/
def polysKnownSpec : ChangeSpec := { name := "polysKnown", fn := fun _ => fun
  | [] => { results := [.lit (.bool true)], args := [] }
  | _ => none }
def polysKnownRow : OpenClaim := { program := "ytmidpholmgmdpaa", sum := "5e5ba418f1a6969e5249f2eac8de0bee2c8b615ca142654eec12268b451d517c", func := "obscura/obscuralaw25.PolysKnown", spec := "polysKnown", unfollowed := true, recurses := true, apart := false }
def PolysKnownSaid : Prop := polysKnownRow.holds Try.pinned (OpenSpec.ofChange polysKnownSpec)

/-- ITS FALSE NEIGHBOUR: 'it returns false'. Refute it at one input. -/
def polysKnownWrong : ChangeSpec := { name := "polysKnown", fn := fun _ => fun
  | [] => { results := [.lit (.bool false)], args := [] }
  | _ => none }
def PolysKnownWrongFalsely : Prop := polysKnownRow.holds Try.pinned (OpenSpec.ofChange polysKnownWrong)

/- THE SECOND FORM. 'bulk': how many values and letters a reading holds, each counted each time it is reached (what is shared counts as often as it is met; a slice's spare places count too). A statement '..UptoSaid' is the law's where the arguments, and the package variables that the reading takes, are together of bulk at most 1048576: NARROWER than '..Said'. Prove '..Said' where nothing that the law and all that it calls make is longer than what came in: it says more and counts as full. Else prove '..UptoSaid'. A law counts once. -/
mutual
def uptoBulk {H : Type} : DataW H → Nat
  | .lit (.string bytes) => bytes.length + 1
  | .lit _ => 1
  | .nil => 1
  | .ptr d => uptoBulk d + 1
  | .slice elems spare => uptoBulkAll elems + uptoBulkAll spare + 1
  | .agg parts => uptoBulkAll parts + 1
  | .iface _ d => uptoBulk d + 1
  | .map entries => uptoBulkEntries entries + 1
  | .held _ => 1
def uptoBulkAll {H : Type} : List (DataW H) → Nat
  | [] => 0
  | d :: r => uptoBulk d + uptoBulkAll r
def uptoBulkEntries {H : Type} : List (Lit × DataW H) → Nat
  | [] => 0
  | x :: r => uptoBulkEntry x + uptoBulkEntries r
def uptoBulkEntry {H : Type} : Lit × DataW H → Nat
  | (.string bytes, d) => bytes.length + uptoBulk d + 1
  | (_, d) => uptoBulk d + 1
 end
def uptoSmall : (H : Type) → List (DataW H) → Bool := fun _ ds => decide (uptoBulkAll ds ≤ 1048576)
def OpenSpec.upto (s : _root_.Go.ChangeSpec) : _root_.Go.OpenSpec := { _root_.Go.OpenSpec.ofChange s with cond := some uptoSmall }

/-- 'obscuralaw25.PolysTables', WHERE WHAT IT READS IS OF BULK AT MOST 1048576: true; the input reads as it did. -/
def polysTablesUptoRow : OpenClaim := { program := "ytmidpholmgmdpaa", sum := "5e5ba418f1a6969e5249f2eac8de0bee2c8b615ca142654eec12268b451d517c", func := "obscura/obscuralaw25.PolysTables", spec := "polysTables", unfollowed := true, recurses := true, apart := false, narrowed := true }
def PolysTablesUptoSaid : Prop := polysTablesUptoRow.holds Try.pinned (OpenSpec.upto polysTablesSpec)

/-- 'obscuralaw25.PolysThrough', WHERE WHAT IT READS IS OF BULK AT MOST 1048576: true; the input reads as it did. -/
def polysThroughUptoRow : OpenClaim := { program := "ytmidpholmgmdpaa", sum := "5e5ba418f1a6969e5249f2eac8de0bee2c8b615ca142654eec12268b451d517c", func := "obscura/obscuralaw25.PolysThrough", spec := "polysThrough", unfollowed := true, recurses := true, apart := false, narrowed := true }
def PolysThroughUptoSaid : Prop := polysThroughUptoRow.holds Try.pinned (OpenSpec.upto polysThroughSpec)

/-- 'obscuralaw25.PolysPlans', WHERE WHAT IT READS IS OF BULK AT MOST 1048576: true; the input reads as it did. -/
def polysPlansUptoRow : OpenClaim := { program := "ytmidpholmgmdpaa", sum := "5e5ba418f1a6969e5249f2eac8de0bee2c8b615ca142654eec12268b451d517c", func := "obscura/obscuralaw25.PolysPlans", spec := "polysPlans", unfollowed := true, recurses := true, apart := false, narrowed := true }
def PolysPlansUptoSaid : Prop := polysPlansUptoRow.holds Try.pinned (OpenSpec.upto polysPlansSpec)

/-- 'obscuralaw25.PolysRuns', WHERE WHAT IT READS IS OF BULK AT MOST 1048576: true; the input reads as it did. -/
def polysRunsUptoRow : OpenClaim := { program := "ytmidpholmgmdpaa", sum := "5e5ba418f1a6969e5249f2eac8de0bee2c8b615ca142654eec12268b451d517c", func := "obscura/obscuralaw25.PolysRuns", spec := "polysRuns", unfollowed := true, recurses := true, apart := false, narrowed := true }
def PolysRunsUptoSaid : Prop := polysRunsUptoRow.holds Try.pinned (OpenSpec.upto polysRunsSpec)

/-- 'obscuralaw25.PolysValues', WHERE WHAT IT READS IS OF BULK AT MOST 1048576: true; the input reads as it did. -/
def polysValuesUptoRow : OpenClaim := { program := "ytmidpholmgmdpaa", sum := "5e5ba418f1a6969e5249f2eac8de0bee2c8b615ca142654eec12268b451d517c", func := "obscura/obscuralaw25.PolysValues", spec := "polysValues", unfollowed := true, recurses := true, apart := false, narrowed := true }
def PolysValuesUptoSaid : Prop := polysValuesUptoRow.holds Try.pinned (OpenSpec.upto polysValuesSpec)

/-- 'obscuralaw25.PolysCompares', WHERE WHAT IT READS IS OF BULK AT MOST 1048576: true; the input reads as it did. -/
def polysComparesUptoRow : OpenClaim := { program := "ytmidpholmgmdpaa", sum := "5e5ba418f1a6969e5249f2eac8de0bee2c8b615ca142654eec12268b451d517c", func := "obscura/obscuralaw25.PolysCompares", spec := "polysCompares", unfollowed := true, recurses := true, apart := false, narrowed := true }
def PolysComparesUptoSaid : Prop := polysComparesUptoRow.holds Try.pinned (OpenSpec.upto polysComparesSpec)

/-- 'obscuralaw25.PolysKnown', WHERE WHAT IT READS IS OF BULK AT MOST 1048576: true; the input reads as it did. -/
def polysKnownUptoRow : OpenClaim := { program := "ytmidpholmgmdpaa", sum := "5e5ba418f1a6969e5249f2eac8de0bee2c8b615ca142654eec12268b451d517c", func := "obscura/obscuralaw25.PolysKnown", spec := "polysKnown", unfollowed := true, recurses := true, apart := false, narrowed := true }
def PolysKnownUptoSaid : Prop := polysKnownUptoRow.holds Try.pinned (OpenSpec.upto polysKnownSpec)

end Rows
end Go.Proofs.Ytmidpholmgmdpaa
