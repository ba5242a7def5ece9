/- The walk of the law ModularAdds: words. -/
import Derived.Test.YtigefhlgkmfgmaaShown
import Derived.Test.YtigefhlgkmfgmaaArgs
import Derived.Test.YtigefhlgkmfgmaaFacMul
import Derived.Test.YtigefhlgkmfgmaaModularInverts
import Derived.Deep.QuietTactic
import Derived.BigQuiet
import Derived.Lib.QuietBelow
namespace Go.Proofs.Ytigefhlgkmfgmaa
open Go.RowKit Go.Sort
set_option linter.unusedVariables false

theorem below_box (w : World) (o : Obj) (q : Nat) : Below w.heap.size w ((w.alloc o).drewN q) := below_drewN ((Below.refl w.heap.size w).alloc (Nat.le_refl _) o) q
theorem pow_adds {a n j k : Nat} : (a ^ j % n) * (a ^ k % n) % n = a ^ (j + k) % n := by rw [← Nat.mul_mod, Nat.pow_add]

end Go.Proofs.Ytigefhlgkmfgmaa
