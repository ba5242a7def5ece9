/- The strong tests to the bases 2, 7 and 61 are exact below 2^32: plain Lean, no program in sight. -/
import Derived.Test.YtkklacgoeopekaaMrK
namespace Go.Proofs.Ytkklacgoeopekaa.Mr
set_option maxRecDepth 100000
theorem k3 : dirs 4952 4099 = true := by decide +kernel
theorem k4 : dirs 25766 14003 = true := by decide +kernel
end Go.Proofs.Ytkklacgoeopekaa.Mr
