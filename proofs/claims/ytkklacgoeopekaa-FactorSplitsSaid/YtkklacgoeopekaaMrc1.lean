/- The strong tests to the bases 2, 7 and 61 are exact below 2^32: plain Lean, no program in sight. -/
import Derived.Test.YtkklacgoeopekaaMrE
namespace Go.Proofs.Ytkklacgoeopekaa.Mr
set_option maxRecDepth 100000
theorem c1 : roots 128 100 (spl.drop 0) = true := by decide +kernel
theorem c2 : roots 128 100 (spl.drop 100) = true := by decide +kernel
end Go.Proofs.Ytkklacgoeopekaa.Mr
