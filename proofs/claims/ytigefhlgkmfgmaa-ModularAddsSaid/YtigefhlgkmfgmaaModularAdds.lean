/- The walk of the law ModularAdds: it returns true. -/
import Derived.Test.YtigefhlgkmfgmaaAddsB1
import Derived.Test.YtigefhlgkmfgmaaAddsB2
import Derived.Test.YtigefhlgkmfgmaaAddsB3
import Derived.Test.YtigefhlgkmfgmaaAddsB4
namespace Go.Proofs.Ytigefhlgkmfgmaa
open Go.RowKit Go.Sort
set_option linter.unusedVariables false

theorem modularAdds_any (a n many J K : Nat) (w : World) (ha : a ≤ 4294967295) (hn : n ≤ 4294967295) (hmany : many ≤ 4294967295) (hJ : J < 18446744073709551616) (hK : K < 18446744073709551616) :
    Calls Try.prog 6 #[.agg #[.int .u32 a, .int .u32 n, .int .u32 many, .int .u64 J, .int .u64 K]] w (RetV w (.bool true)) := by
  rcases (show n < 2 ∨ (¬ n < 2 ∧ 2147483647 < n) ∨ (¬ n < 2 ∧ ¬ 2147483647 < n ∧ n ≤ a) ∨ (2 ≤ n ∧ n ≤ 2147483647 ∧ a < n) by omega) with h1 | ⟨h1, h2⟩ | ⟨h1, h2, h3⟩ | ⟨h1, h2, h3⟩
  · exact modularAdds_1 a n many J K w ha hn hmany hJ hK h1
  · exact modularAdds_2 a n many J K w ha hn hmany hJ hK h1 h2
  · exact modularAdds_3 a n many J K w ha hn hmany hJ hK h1 h2 h3
  · exact modularAdds_4 a n many J K w ha hn hmany hJ hK h1 h2 h3
end Go.Proofs.Ytigefhlgkmfgmaa
