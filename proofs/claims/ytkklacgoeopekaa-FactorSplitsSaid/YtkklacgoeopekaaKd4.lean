/- The primes looked up, part 3 of 4. No program in sight. -/
/- The primes looked up, part 4 of 4. No program in sight. -/
import Derived.Test.YtkklacgoeopekaaKn7
namespace Go.Proofs.Ytkklacgoeopekaa
set_option maxRecDepth 100000
theorem gAll3 : gAll 128 64 = true := by decide +kernel
end Go.Proofs.Ytkklacgoeopekaa

namespace Go.Proofs.Ytkklacgoeopekaa
set_option maxRecDepth 100000
theorem gAll4 : gAll 192 64 = true := by decide +kernel
end Go.Proofs.Ytkklacgoeopekaa
