/- The strong tests to the bases 2, 7 and 61 are exact below 2^32: plain Lean, no program in sight. -/
import Derived.Test.YthepdpfiahcfmaaMrD
namespace Go.Proofs.Ythepdpfiahcfmaa.Mr
set_option maxRecDepth 100000
theorem c5 : roots 128 26 (spl.drop 280) = true := by decide +kernel
end Go.Proofs.Ythepdpfiahcfmaa.Mr
