/- The strong tests to the bases 2, 7 and 61 are exact below 2^32: plain Lean, no program in sight. -/
import Derived.Test.YtkklacgoeopekaaMrE
namespace Go.Proofs.Ytkklacgoeopekaa.Mr
set_option maxRecDepth 100000
theorem a1 : partA 12000 3 = true := by decide +kernel
theorem a2 : partA 8000 24003 = true := by decide +kernel
end Go.Proofs.Ytkklacgoeopekaa.Mr
