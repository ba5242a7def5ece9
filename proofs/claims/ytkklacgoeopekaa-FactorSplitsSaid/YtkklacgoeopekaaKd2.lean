/- The primes looked up, part 1 of 4. No program in sight. -/
/- The primes looked up, part 2 of 4. No program in sight. -/
import Derived.Test.YtkklacgoeopekaaKn7
namespace Go.Proofs.Ytkklacgoeopekaa
set_option maxRecDepth 100000
theorem gAll1 : gAll 0 64 = true := by decide +kernel
end Go.Proofs.Ytkklacgoeopekaa

namespace Go.Proofs.Ytkklacgoeopekaa
set_option maxRecDepth 100000
theorem gAll2 : gAll 64 64 = true := by decide +kernel
end Go.Proofs.Ytkklacgoeopekaa
