/-
  No cell of these rows narrows 'for every input' (looked for: loops, veiled, ifaces, maps, wideKeys, modest, calm, conditions, laid).
  DERIVED. THE GIVEN ROWS OF THIS SEAT. 8 by the template 'for every input the law returns true; each argument reads behind the call as it read before'; 0 by the template 'total and deterministic' (their statements: YtigefhlgkmfgmaaTotals.lean).
  GIVEN WITH THE SEED: the statements are not yours to turn. If you find one false, say at which input.
  Laid BY PROGRAM, IN A SANDBOX (cutbox-rows.mjs): the forced cells as the released guide's own fill.sh prints them over the translation 8761c1d9215c9ce6… (all of the seat's roots in one cut). By AI agents, Wed Nov 11 2026. No macro, syntax, notation, axiom, sorry.
-/
import Derived.Test.YtigefhlgkmfgmaaChecked
import GoSem.Claim
import GoSem.ClaimJoined
import GoSem.ClaimMapViews
import Derived.JoinedTies
import Derived.KernelRfl
namespace Go.Proofs.Ytigefhlgkmfgmaa
/- THE CELL 'sum', in the pinned program and in every row, IS THE sha256 OF THE DUMP (.gsa) THAT YtigefhlgkmfgmaaProg.lean LOADS. Nothing in Lean hashes anything: it is a label: what it is worth is what the hold of that sum in a sandbox is worth. -/
noncomputable def Try.pinned : Pinned := { name := "ytigefhlgkmfgmaa", sum := "8761c1d9215c9ce6849887a798968d83b762e9aa4c5c68606282556bd941dc14", checked := Try.checked }
namespace Rows
def none {H : Type} : Left H := { results := [], args := [] }

/-- 'obscuralaw01.ModularPrimes': WHATEVER THE INPUT: true; the input reads as it did. -/
def modularPrimesSpec : ChangeSpec := { name := "modularPrimes", fn := fun _ => fun
  | [d] => { results := [.lit (.bool true)], args := [d] }
  | _ => none }
def modularPrimesRow : OpenClaim := { program := "ytigefhlgkmfgmaa", sum := "8761c1d9215c9ce6849887a798968d83b762e9aa4c5c68606282556bd941dc14", func := "obscura/obscuralaw01.ModularPrimes", spec := "modularPrimes", unfollowed := true, recurses := true, apart := false }
def ModularPrimesSaid : Prop := modularPrimesRow.holds Try.pinned (OpenSpec.ofChange modularPrimesSpec)

/-- ITS FALSE NEIGHBOUR: 'it returns false'. Refute it at one input. -/
def modularPrimesWrong : ChangeSpec := { name := "modularPrimes", fn := fun _ => fun
  | [d] => { results := [.lit (.bool false)], args := [d] }
  | _ => none }
def ModularPrimesWrongFalsely : Prop := modularPrimesRow.holds Try.pinned (OpenSpec.ofChange modularPrimesWrong)

/-- 'obscuralaw01.ModularTrials': WHATEVER THE INPUT: true; the input reads as it did. -/
def modularTrialsSpec : ChangeSpec := { name := "modularTrials", fn := fun _ => fun
  | [d] => { results := [.lit (.bool true)], args := [d] }
  | _ => none }
def modularTrialsRow : OpenClaim := { program := "ytigefhlgkmfgmaa", sum := "8761c1d9215c9ce6849887a798968d83b762e9aa4c5c68606282556bd941dc14", func := "obscura/obscuralaw01.ModularTrials", spec := "modularTrials", unfollowed := true, recurses := true, apart := false }
def ModularTrialsSaid : Prop := modularTrialsRow.holds Try.pinned (OpenSpec.ofChange modularTrialsSpec)

/-- ITS FALSE NEIGHBOUR: 'it returns false'. Refute it at one input. -/
def modularTrialsWrong : ChangeSpec := { name := "modularTrials", fn := fun _ => fun
  | [d] => { results := [.lit (.bool false)], args := [d] }
  | _ => none }
def ModularTrialsWrongFalsely : Prop := modularTrialsRow.holds Try.pinned (OpenSpec.ofChange modularTrialsWrong)

/-- 'obscuralaw01.ModularPowers': WHATEVER THE INPUT: true; the input reads as it did. -/
def modularPowersSpec : ChangeSpec := { name := "modularPowers", fn := fun _ => fun
  | [d1, d2, d3] => { results := [.lit (.bool true)], args := [d1, d2, d3] }
  | _ => none }
def modularPowersRow : OpenClaim := { program := "ytigefhlgkmfgmaa", sum := "8761c1d9215c9ce6849887a798968d83b762e9aa4c5c68606282556bd941dc14", func := "obscura/obscuralaw01.ModularPowers", spec := "modularPowers", unfollowed := true, recurses := true, apart := false }
def ModularPowersSaid : Prop := modularPowersRow.holds Try.pinned (OpenSpec.ofChange modularPowersSpec)

/-- ITS FALSE NEIGHBOUR: 'it returns false'. Refute it at one input. -/
def modularPowersWrong : ChangeSpec := { name := "modularPowers", fn := fun _ => fun
  | [d1, d2, d3] => { results := [.lit (.bool false)], args := [d1, d2, d3] }
  | _ => none }
def ModularPowersWrongFalsely : Prop := modularPowersRow.holds Try.pinned (OpenSpec.ofChange modularPowersWrong)

/-- 'obscuralaw01.ModularAdds': WHATEVER THE INPUT: true; the input reads as it did. -/
def modularAddsSpec : ChangeSpec := { name := "modularAdds", fn := fun _ => fun
  | [d] => { results := [.lit (.bool true)], args := [d] }
  | _ => none }
def modularAddsRow : OpenClaim := { program := "ytigefhlgkmfgmaa", sum := "8761c1d9215c9ce6849887a798968d83b762e9aa4c5c68606282556bd941dc14", func := "obscura/obscuralaw01.ModularAdds", spec := "modularAdds", unfollowed := true, recurses := true, apart := false }
def ModularAddsSaid : Prop := modularAddsRow.holds Try.pinned (OpenSpec.ofChange modularAddsSpec)

/-- ITS FALSE NEIGHBOUR: 'it returns false'. Refute it at one input. -/
def modularAddsWrong : ChangeSpec := { name := "modularAdds", fn := fun _ => fun
  | [d] => { results := [.lit (.bool false)], args := [d] }
  | _ => none }
def ModularAddsWrongFalsely : Prop := modularAddsRow.holds Try.pinned (OpenSpec.ofChange modularAddsWrong)

/-- 'obscuralaw01.ModularInverts': WHATEVER THE INPUT: true; the input reads as it did. -/
def modularInvertsSpec : ChangeSpec := { name := "modularInverts", fn := fun _ => fun
  | [d1, d2] => { results := [.lit (.bool true)], args := [d1, d2] }
  | _ => none }
def modularInvertsRow : OpenClaim := { program := "ytigefhlgkmfgmaa", sum := "8761c1d9215c9ce6849887a798968d83b762e9aa4c5c68606282556bd941dc14", func := "obscura/obscuralaw01.ModularInverts", spec := "modularInverts", unfollowed := true, recurses := true, apart := false }
def ModularInvertsSaid : Prop := modularInvertsRow.holds Try.pinned (OpenSpec.ofChange modularInvertsSpec)

/-- ITS FALSE NEIGHBOUR: 'it returns false'. Refute it at one input. -/
def modularInvertsWrong : ChangeSpec := { name := "modularInverts", fn := fun _ => fun
  | [d1, d2] => { results := [.lit (.bool false)], args := [d1, d2] }
  | _ => none }
def ModularInvertsWrongFalsely : Prop := modularInvertsRow.holds Try.pinned (OpenSpec.ofChange modularInvertsWrong)

/-- 'obscuralaw01.ModularOrders': WHATEVER THE INPUT: true; the input reads as it did. -/
def modularOrdersSpec : ChangeSpec := { name := "modularOrders", fn := fun _ => fun
  | [d1, d2, d3] => { results := [.lit (.bool true)], args := [d1, d2, d3] }
  | _ => none }
def modularOrdersRow : OpenClaim := { program := "ytigefhlgkmfgmaa", sum := "8761c1d9215c9ce6849887a798968d83b762e9aa4c5c68606282556bd941dc14", func := "obscura/obscuralaw01.ModularOrders", spec := "modularOrders", unfollowed := true, recurses := true, apart := false }
def ModularOrdersSaid : Prop := modularOrdersRow.holds Try.pinned (OpenSpec.ofChange modularOrdersSpec)

/-- ITS FALSE NEIGHBOUR: 'it returns false'. Refute it at one input. -/
def modularOrdersWrong : ChangeSpec := { name := "modularOrders", fn := fun _ => fun
  | [d1, d2, d3] => { results := [.lit (.bool false)], args := [d1, d2, d3] }
  | _ => none }
def ModularOrdersWrongFalsely : Prop := modularOrdersRow.holds Try.pinned (OpenSpec.ofChange modularOrdersWrong)

/-- 'obscuralaw01.ModularRoots': WHATEVER THE INPUT: true; the input reads as it did. -/
def modularRootsSpec : ChangeSpec := { name := "modularRoots", fn := fun _ => fun
  | [d1, d2] => { results := [.lit (.bool true)], args := [d1, d2] }
  | _ => none }
def modularRootsRow : OpenClaim := { program := "ytigefhlgkmfgmaa", sum := "8761c1d9215c9ce6849887a798968d83b762e9aa4c5c68606282556bd941dc14", func := "obscura/obscuralaw01.ModularRoots", spec := "modularRoots", unfollowed := true, recurses := true, apart := false }
def ModularRootsSaid : Prop := modularRootsRow.holds Try.pinned (OpenSpec.ofChange modularRootsSpec)

/-- ITS FALSE NEIGHBOUR: 'it returns false'. Refute it at one input. -/
def modularRootsWrong : ChangeSpec := { name := "modularRoots", fn := fun _ => fun
  | [d1, d2] => { results := [.lit (.bool false)], args := [d1, d2] }
  | _ => none }
def ModularRootsWrongFalsely : Prop := modularRootsRow.holds Try.pinned (OpenSpec.ofChange modularRootsWrong)

/-- 'obscuralaw01.ModularSums': WHATEVER THE INPUT: true; the input reads as it did. -/
def modularSumsSpec : ChangeSpec := { name := "modularSums", fn := fun _ => fun
  | [d] => { results := [.lit (.bool true)], args := [d] }
  | _ => none }
def modularSumsRow : OpenClaim := { program := "ytigefhlgkmfgmaa", sum := "8761c1d9215c9ce6849887a798968d83b762e9aa4c5c68606282556bd941dc14", func := "obscura/obscuralaw01.ModularSums", spec := "modularSums", unfollowed := true, recurses := true, apart := false }
def ModularSumsSaid : Prop := modularSumsRow.holds Try.pinned (OpenSpec.ofChange modularSumsSpec)

/-- ITS FALSE NEIGHBOUR: 'it returns false'. Refute it at one input. -/
def modularSumsWrong : ChangeSpec := { name := "modularSums", fn := fun _ => fun
  | [d] => { results := [.lit (.bool false)], args := [d] }
  | _ => none }
def ModularSumsWrongFalsely : Prop := modularSumsRow.holds Try.pinned (OpenSpec.ofChange modularSumsWrong)

/- THE SECOND FORM. 'bulk': how many values and letters a reading holds, each counted each time it is reached (what is shared counts as often as it is met; a slice's spare places count too). A statement '..UptoSaid' is the law's where the arguments, and the package variables that the reading takes, are together of bulk at most 1048576: NARROWER than '..Said'. Prove '..Said' where nothing that the law and all that it calls make is longer than what came in: it says more and counts as full. Else prove '..UptoSaid'. A law counts once. -/
mutual
def uptoBulk {H : Type} : DataW H → Nat
  | .lit (.string bytes) => bytes.length + 1
  | .lit _ => 1
  | .nil => 1
  | .ptr d => uptoBulk d + 1
  | .slice elems spare => uptoBulkAll elems + uptoBulkAll spare + 1
  | .agg parts => uptoBulkAll parts + 1
  | .iface _ d => uptoBulk d + 1
  | .map entries => uptoBulkEntries entries + 1
  | .held _ => 1
def uptoBulkAll {H : Type} : List (DataW H) → Nat
  | [] => 0
  | d :: r => uptoBulk d + uptoBulkAll r
def uptoBulkEntries {H : Type} : List (Lit × DataW H) → Nat
  | [] => 0
  | x :: r => uptoBulkEntry x + uptoBulkEntries r
def uptoBulkEntry {H : Type} : Lit × DataW H → Nat
  | (.string bytes, d) => bytes.length + uptoBulk d + 1
  | (_, d) => uptoBulk d + 1
 end
def uptoSmall : (H : Type) → List (DataW H) → Bool := fun _ ds => decide (uptoBulkAll ds ≤ 1048576)
def OpenSpec.upto (s : _root_.Go.ChangeSpec) : _root_.Go.OpenSpec := { _root_.Go.OpenSpec.ofChange s with cond := some uptoSmall }

/-- 'obscuralaw01.ModularPrimes', WHERE WHAT IT READS IS OF BULK AT MOST 1048576: true; the input reads as it did. -/
def modularPrimesUptoRow : OpenClaim := { program := "ytigefhlgkmfgmaa", sum := "8761c1d9215c9ce6849887a798968d83b762e9aa4c5c68606282556bd941dc14", func := "obscura/obscuralaw01.ModularPrimes", spec := "modularPrimes", unfollowed := true, recurses := true, apart := false, narrowed := true }
def ModularPrimesUptoSaid : Prop := modularPrimesUptoRow.holds Try.pinned (OpenSpec.upto modularPrimesSpec)

/-- 'obscuralaw01.ModularTrials', WHERE WHAT IT READS IS OF BULK AT MOST 1048576: true; the input reads as it did. -/
def modularTrialsUptoRow : OpenClaim := { program := "ytigefhlgkmfgmaa", sum := "8761c1d9215c9ce6849887a798968d83b762e9aa4c5c68606282556bd941dc14", func := "obscura/obscuralaw01.ModularTrials", spec := "modularTrials", unfollowed := true, recurses := true, apart := false, narrowed := true }
def ModularTrialsUptoSaid : Prop := modularTrialsUptoRow.holds Try.pinned (OpenSpec.upto modularTrialsSpec)

/-- 'obscuralaw01.ModularPowers', WHERE WHAT IT READS IS OF BULK AT MOST 1048576: true; the input reads as it did. -/
def modularPowersUptoRow : OpenClaim := { program := "ytigefhlgkmfgmaa", sum := "8761c1d9215c9ce6849887a798968d83b762e9aa4c5c68606282556bd941dc14", func := "obscura/obscuralaw01.ModularPowers", spec := "modularPowers", unfollowed := true, recurses := true, apart := false, narrowed := true }
def ModularPowersUptoSaid : Prop := modularPowersUptoRow.holds Try.pinned (OpenSpec.upto modularPowersSpec)

/-- 'obscuralaw01.ModularAdds', WHERE WHAT IT READS IS OF BULK AT MOST 1048576: true; the input reads as it did. -/
def modularAddsUptoRow : OpenClaim := { program := "ytigefhlgkmfgmaa", sum := "8761c1d9215c9ce6849887a798968d83b762e9aa4c5c68606282556bd941dc14", func := "obscura/obscuralaw01.ModularAdds", spec := "modularAdds", unfollowed := true, recurses := true, apart := false, narrowed := true }
def ModularAddsUptoSaid : Prop := modularAddsUptoRow.holds Try.pinned (OpenSpec.upto modularAddsSpec)

/-- 'obscuralaw01.ModularInverts', WHERE WHAT IT READS IS OF BULK AT MOST 1048576: true; the input reads as it did. -/
def modularInvertsUptoRow : OpenClaim := { program := "ytigefhlgkmfgmaa", sum := "8761c1d9215c9ce6849887a798968d83b762e9aa4c5c68606282556bd941dc14", func := "obscura/obscuralaw01.ModularInverts", spec := "modularInverts", unfollowed := true, recurses := true, apart := false, narrowed := true }
def ModularInvertsUptoSaid : Prop := modularInvertsUptoRow.holds Try.pinned (OpenSpec.upto modularInvertsSpec)

/-- 'obscuralaw01.ModularOrders', WHERE WHAT IT READS IS OF BULK AT MOST 1048576: true; the input reads as it did. -/
def modularOrdersUptoRow : OpenClaim := { program := "ytigefhlgkmfgmaa", sum := "8761c1d9215c9ce6849887a798968d83b762e9aa4c5c68606282556bd941dc14", func := "obscura/obscuralaw01.ModularOrders", spec := "modularOrders", unfollowed := true, recurses := true, apart := false, narrowed := true }
def ModularOrdersUptoSaid : Prop := modularOrdersUptoRow.holds Try.pinned (OpenSpec.upto modularOrdersSpec)

/-- 'obscuralaw01.ModularRoots', WHERE WHAT IT READS IS OF BULK AT MOST 1048576: true; the input reads as it did. -/
def modularRootsUptoRow : OpenClaim := { program := "ytigefhlgkmfgmaa", sum := "8761c1d9215c9ce6849887a798968d83b762e9aa4c5c68606282556bd941dc14", func := "obscura/obscuralaw01.ModularRoots", spec := "modularRoots", unfollowed := true, recurses := true, apart := false, narrowed := true }
def ModularRootsUptoSaid : Prop := modularRootsUptoRow.holds Try.pinned (OpenSpec.upto modularRootsSpec)

/-- 'obscuralaw01.ModularSums', WHERE WHAT IT READS IS OF BULK AT MOST 1048576: true; the input reads as it did. -/
def modularSumsUptoRow : OpenClaim := { program := "ytigefhlgkmfgmaa", sum := "8761c1d9215c9ce6849887a798968d83b762e9aa4c5c68606282556bd941dc14", func := "obscura/obscuralaw01.ModularSums", spec := "modularSums", unfollowed := true, recurses := true, apart := false, narrowed := true }
def ModularSumsUptoSaid : Prop := modularSumsUptoRow.holds Try.pinned (OpenSpec.upto modularSumsSpec)

end Rows
end Go.Proofs.Ytigefhlgkmfgmaa
