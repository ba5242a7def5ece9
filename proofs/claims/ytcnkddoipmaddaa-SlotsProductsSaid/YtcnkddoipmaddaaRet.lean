/- What a call leaves: one value, and what was there as it was. -/
import Derived.Test.YtcnkddoipmaddaaChecked
import Derived.Test.YtcnkddoipmaddaaLaws
import Derived.RegionTactic
import Derived.Deep.QuietTactic
import Derived.BigQuiet
namespace Go.Proofs.Ytcnkddoipmaddaa
open Go.RowKit

/-- a call that returns one value and leaves what was there -/
def RetV (w : World) (v : Value) (e : Ending) (w' : World) : Prop := e = .returned v ∧ Below w.heap.size w w'

/-- a call that returns one value and leaves the world as it is -/
def RetP (w : World) (v : Value) (e : Ending) (w' : World) : Prop := e = .returned v ∧ w = w'
theorem RetP.v {w : World} {v : Value} {e : Ending} {w' : World} (h : RetP w v e w') : RetV w v e w' := ⟨h.1, by rw [← h.2]; exact Below.refl _ _⟩
end Go.Proofs.Ytcnkddoipmaddaa
