/- The strong tests to the bases 2, 7 and 61 are exact below 2^32: plain Lean, no program in sight. -/
import Derived.Test.YtkklacgoeopekaaMrE
namespace Go.Proofs.Ytkklacgoeopekaa.Mr
set_option maxRecDepth 100000
theorem c3 : roots 128 50 (spl.drop 200) = true := by decide +kernel
theorem c4 : roots 128 30 (spl.drop 250) = true := by decide +kernel
theorem c5 : roots 128 26 (spl.drop 280) = true := by decide +kernel
end Go.Proofs.Ytkklacgoeopekaa.Mr
