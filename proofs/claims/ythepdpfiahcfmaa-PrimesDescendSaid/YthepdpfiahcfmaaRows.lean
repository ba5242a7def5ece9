/-
  No cell of these rows narrows 'for every input' (looked for: loops, veiled, ifaces, maps, wideKeys, modest, calm, conditions, laid).
  DERIVED. THE GIVEN ROWS OF THIS SEAT. 5 by the template 'for every input the law returns true; each argument reads behind the call as it read before'; 0 by the template 'total and deterministic' (their statements: YthepdpfiahcfmaaTotals.lean).
  GIVEN WITH THE SEED: the statements are not yours to turn. If you find one false, say at which input.
  Laid BY PROGRAM, IN A SANDBOX (cutbox-rows.mjs): the forced cells as the released guide's own fill.sh prints them over the translation d5d471f1e532f956… (all of the seat's roots in one cut). By AI agents, Wed Nov 11 2026. No macro, syntax, notation, axiom, sorry.
-/
import Derived.Test.YthepdpfiahcfmaaChecked
import GoSem.Claim
import GoSem.ClaimJoined
import GoSem.ClaimMapViews
import Derived.JoinedTies
import Derived.KernelRfl
namespace Go.Proofs.Ythepdpfiahcfmaa
/- THE CELL 'sum', in the pinned program and in every row, IS THE sha256 OF THE DUMP (.gsa) THAT YthepdpfiahcfmaaProg.lean LOADS. Nothing in Lean hashes anything: it is a label: what it is worth is what the hold of that sum in a sandbox is worth. -/
noncomputable def Try.pinned : Pinned := { name := "ythepdpfiahcfmaa", sum := "d5d471f1e532f956f22ebf3684fd3e87e31123c927bf2a087a061d33ac13f9cc", checked := Try.checked }
namespace Rows
def none {H : Type} : Left H := { results := [], args := [] }

/-- 'obscuralaw03.PrimesFind': WHATEVER THE INPUT: true; the input reads as it did. -/
def primesFindSpec : ChangeSpec := { name := "primesFind", fn := fun _ => fun
  | [d1, d2] => { results := [.lit (.bool true)], args := [d1, d2] }
  | _ => none }
def primesFindRow : OpenClaim := { program := "ythepdpfiahcfmaa", sum := "d5d471f1e532f956f22ebf3684fd3e87e31123c927bf2a087a061d33ac13f9cc", func := "obscura/obscuralaw03.PrimesFind", spec := "primesFind", unfollowed := true, recurses := true, apart := false }
def PrimesFindSaid : Prop := primesFindRow.holds Try.pinned (OpenSpec.ofChange primesFindSpec)

/-- ITS FALSE NEIGHBOUR: 'it returns false'. Refute it at one input. -/
def primesFindWrong : ChangeSpec := { name := "primesFind", fn := fun _ => fun
  | [d1, d2] => { results := [.lit (.bool false)], args := [d1, d2] }
  | _ => none }
def PrimesFindWrongFalsely : Prop := primesFindRow.holds Try.pinned (OpenSpec.ofChange primesFindWrong)

/-- 'obscuralaw03.PrimesChains': WHATEVER THE INPUT: true; the input reads as it did. -/
def primesChainsSpec : ChangeSpec := { name := "primesChains", fn := fun _ => fun
  | [d1, d2, d3] => { results := [.lit (.bool true)], args := [d1, d2, d3] }
  | _ => none }
def primesChainsRow : OpenClaim := { program := "ythepdpfiahcfmaa", sum := "d5d471f1e532f956f22ebf3684fd3e87e31123c927bf2a087a061d33ac13f9cc", func := "obscura/obscuralaw03.PrimesChains", spec := "primesChains", unfollowed := true, recurses := true, apart := false }
def PrimesChainsSaid : Prop := primesChainsRow.holds Try.pinned (OpenSpec.ofChange primesChainsSpec)

/-- ITS FALSE NEIGHBOUR: 'it returns false'. Refute it at one input. -/
def primesChainsWrong : ChangeSpec := { name := "primesChains", fn := fun _ => fun
  | [d1, d2, d3] => { results := [.lit (.bool false)], args := [d1, d2, d3] }
  | _ => none }
def PrimesChainsWrongFalsely : Prop := primesChainsRow.holds Try.pinned (OpenSpec.ofChange primesChainsWrong)

/-- 'obscuralaw03.PrimesPlains': WHATEVER THE INPUT: true; the input reads as it did. -/
def primesPlainsSpec : ChangeSpec := { name := "primesPlains", fn := fun _ => fun
  | [d1, d2, d3] => { results := [.lit (.bool true)], args := [d1, d2, d3] }
  | _ => none }
def primesPlainsRow : OpenClaim := { program := "ythepdpfiahcfmaa", sum := "d5d471f1e532f956f22ebf3684fd3e87e31123c927bf2a087a061d33ac13f9cc", func := "obscura/obscuralaw03.PrimesPlains", spec := "primesPlains", unfollowed := true, recurses := true, apart := false }
def PrimesPlainsSaid : Prop := primesPlainsRow.holds Try.pinned (OpenSpec.ofChange primesPlainsSpec)

/-- ITS FALSE NEIGHBOUR: 'it returns false'. Refute it at one input. -/
def primesPlainsWrong : ChangeSpec := { name := "primesPlains", fn := fun _ => fun
  | [d1, d2, d3] => { results := [.lit (.bool false)], args := [d1, d2, d3] }
  | _ => none }
def PrimesPlainsWrongFalsely : Prop := primesPlainsRow.holds Try.pinned (OpenSpec.ofChange primesPlainsWrong)

/-- 'obscuralaw03.PrimesDescend': WHATEVER THE INPUT: true; the input reads as it did. -/
def primesDescendSpec : ChangeSpec := { name := "primesDescend", fn := fun _ => fun
  | [d1, d2, d3] => { results := [.lit (.bool true)], args := [d1, d2, d3] }
  | _ => none }
def primesDescendRow : OpenClaim := { program := "ythepdpfiahcfmaa", sum := "d5d471f1e532f956f22ebf3684fd3e87e31123c927bf2a087a061d33ac13f9cc", func := "obscura/obscuralaw03.PrimesDescend", spec := "primesDescend", unfollowed := true, recurses := true, apart := false }
def PrimesDescendSaid : Prop := primesDescendRow.holds Try.pinned (OpenSpec.ofChange primesDescendSpec)

/-- ITS FALSE NEIGHBOUR: 'it returns false'. Refute it at one input. -/
def primesDescendWrong : ChangeSpec := { name := "primesDescend", fn := fun _ => fun
  | [d1, d2, d3] => { results := [.lit (.bool false)], args := [d1, d2, d3] }
  | _ => none }
def PrimesDescendWrongFalsely : Prop := primesDescendRow.holds Try.pinned (OpenSpec.ofChange primesDescendWrong)

/-- 'obscuralaw03.PrimesGenerate': WHATEVER THE INPUT: true; the input reads as it did. -/
def primesGenerateSpec : ChangeSpec := { name := "primesGenerate", fn := fun _ => fun
  | [d] => { results := [.lit (.bool true)], args := [d] }
  | _ => none }
def primesGenerateRow : OpenClaim := { program := "ythepdpfiahcfmaa", sum := "d5d471f1e532f956f22ebf3684fd3e87e31123c927bf2a087a061d33ac13f9cc", func := "obscura/obscuralaw03.PrimesGenerate", spec := "primesGenerate", unfollowed := true, recurses := true, apart := false }
def PrimesGenerateSaid : Prop := primesGenerateRow.holds Try.pinned (OpenSpec.ofChange primesGenerateSpec)

/-- ITS FALSE NEIGHBOUR: 'it returns false'. Refute it at one input. -/
def primesGenerateWrong : ChangeSpec := { name := "primesGenerate", fn := fun _ => fun
  | [d] => { results := [.lit (.bool false)], args := [d] }
  | _ => none }
def PrimesGenerateWrongFalsely : Prop := primesGenerateRow.holds Try.pinned (OpenSpec.ofChange primesGenerateWrong)

/- THE SECOND FORM. 'bulk': how many values and letters a reading holds, each counted each time it is reached (what is shared counts as often as it is met; a slice's spare places count too). A statement '..UptoSaid' is the law's where the arguments, and the package variables that the reading takes, are together of bulk at most 1048576: NARROWER than '..Said'. Prove '..Said' where nothing that the law and all that it calls make is longer than what came in: it says more and counts as full. Else prove '..UptoSaid'. A law counts once. -/
mutual
def uptoBulk {H : Type} : DataW H → Nat
  | .lit (.string bytes) => bytes.length + 1
  | .lit _ => 1
  | .nil => 1
  | .ptr d => uptoBulk d + 1
  | .slice elems spare => uptoBulkAll elems + uptoBulkAll spare + 1
  | .agg parts => uptoBulkAll parts + 1
  | .iface _ d => uptoBulk d + 1
  | .map entries => uptoBulkEntries entries + 1
  | .held _ => 1
def uptoBulkAll {H : Type} : List (DataW H) → Nat
  | [] => 0
  | d :: r => uptoBulk d + uptoBulkAll r
def uptoBulkEntries {H : Type} : List (Lit × DataW H) → Nat
  | [] => 0
  | x :: r => uptoBulkEntry x + uptoBulkEntries r
def uptoBulkEntry {H : Type} : Lit × DataW H → Nat
  | (.string bytes, d) => bytes.length + uptoBulk d + 1
  | (_, d) => uptoBulk d + 1
 end
def uptoSmall : (H : Type) → List (DataW H) → Bool := fun _ ds => decide (uptoBulkAll ds ≤ 1048576)
def OpenSpec.upto (s : _root_.Go.ChangeSpec) : _root_.Go.OpenSpec := { _root_.Go.OpenSpec.ofChange s with cond := some uptoSmall }

/-- 'obscuralaw03.PrimesFind', WHERE WHAT IT READS IS OF BULK AT MOST 1048576: true; the input reads as it did. -/
def primesFindUptoRow : OpenClaim := { program := "ythepdpfiahcfmaa", sum := "d5d471f1e532f956f22ebf3684fd3e87e31123c927bf2a087a061d33ac13f9cc", func := "obscura/obscuralaw03.PrimesFind", spec := "primesFind", unfollowed := true, recurses := true, apart := false, narrowed := true }
def PrimesFindUptoSaid : Prop := primesFindUptoRow.holds Try.pinned (OpenSpec.upto primesFindSpec)

/-- 'obscuralaw03.PrimesChains', WHERE WHAT IT READS IS OF BULK AT MOST 1048576: true; the input reads as it did. -/
def primesChainsUptoRow : OpenClaim := { program := "ythepdpfiahcfmaa", sum := "d5d471f1e532f956f22ebf3684fd3e87e31123c927bf2a087a061d33ac13f9cc", func := "obscura/obscuralaw03.PrimesChains", spec := "primesChains", unfollowed := true, recurses := true, apart := false, narrowed := true }
def PrimesChainsUptoSaid : Prop := primesChainsUptoRow.holds Try.pinned (OpenSpec.upto primesChainsSpec)

/-- 'obscuralaw03.PrimesPlains', WHERE WHAT IT READS IS OF BULK AT MOST 1048576: true; the input reads as it did. -/
def primesPlainsUptoRow : OpenClaim := { program := "ythepdpfiahcfmaa", sum := "d5d471f1e532f956f22ebf3684fd3e87e31123c927bf2a087a061d33ac13f9cc", func := "obscura/obscuralaw03.PrimesPlains", spec := "primesPlains", unfollowed := true, recurses := true, apart := false, narrowed := true }
def PrimesPlainsUptoSaid : Prop := primesPlainsUptoRow.holds Try.pinned (OpenSpec.upto primesPlainsSpec)

/-- 'obscuralaw03.PrimesDescend', WHERE WHAT IT READS IS OF BULK AT MOST 1048576: true; the input reads as it did. -/
def primesDescendUptoRow : OpenClaim := { program := "ythepdpfiahcfmaa", sum := "d5d471f1e532f956f22ebf3684fd3e87e31123c927bf2a087a061d33ac13f9cc", func := "obscura/obscuralaw03.PrimesDescend", spec := "primesDescend", unfollowed := true, recurses := true, apart := false, narrowed := true }
def PrimesDescendUptoSaid : Prop := primesDescendUptoRow.holds Try.pinned (OpenSpec.upto primesDescendSpec)

/-- 'obscuralaw03.PrimesGenerate', WHERE WHAT IT READS IS OF BULK AT MOST 1048576: true; the input reads as it did. -/
def primesGenerateUptoRow : OpenClaim := { program := "ythepdpfiahcfmaa", sum := "d5d471f1e532f956f22ebf3684fd3e87e31123c927bf2a087a061d33ac13f9cc", func := "obscura/obscuralaw03.PrimesGenerate", spec := "primesGenerate", unfollowed := true, recurses := true, apart := false, narrowed := true }
def PrimesGenerateUptoSaid : Prop := primesGenerateUptoRow.holds Try.pinned (OpenSpec.upto primesGenerateSpec)

end Rows
end Go.Proofs.Ythepdpfiahcfmaa
