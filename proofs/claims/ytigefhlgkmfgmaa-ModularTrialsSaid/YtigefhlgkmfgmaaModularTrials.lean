/- The walk of the law ModularTrials: it returns true. -/
import Derived.Test.YtigefhlgkmfgmaaShown
import Derived.Test.YtigefhlgkmfgmaaArgs
namespace Go.Proofs.Ytigefhlgkmfgmaa
open Go.RowKit
set_option linter.unusedVariables false

set_option maxRecDepth 100000 in
set_option maxHeartbeats 1000000 in
theorem modularTrials_any (n : Nat) (w : World) (hn : n ≤ 4294967295) : Calls Try.prog 4 #[.int .u32 n] w (RetV w (.bool true)) := by
  have H1 := Lib.hid (fun V => prime_any n V hn)
  have H2 := Lib.hid (fun V => trial_any n V hn)
  have H3 := Lib.hid (fun V => rprime_any n V hn)
  obtain ⟨b, hb⟩ : ∃ b, prB n = b := ⟨_, rfl⟩
  rw [hb] at H1 H2 H3
  clear hb
  cases b <;>
  · go_enter Try.func4, Try.ntmps4
    go_wp2_with fail
    (with_reducible refine (H1.out w).mono ?_)
    rintro e w1 ⟨rfl, hb1⟩
    go_wp2_with fail
    (with_reducible refine (H2.out w1).mono ?_)
    rintro e w2 ⟨rfl, hw2⟩
    subst hw2
    go_wp2_with fail
    (with_reducible refine (H3.out w1).mono ?_)
    rintro e w3 ⟨rfl, hw3⟩
    subst hw3
    go_wp2_with fail
    (with_reducible refine (H2.out w1).mono ?_)
    rintro e w2 ⟨rfl, hw2⟩
    subst hw2
    go_wp2_with fail
    (with_reducible refine (shown_any w1).mono ?_)
    rintro e w4 ⟨rfl, hb4⟩
    go_wp2_with fail
    go_ret
    exact ⟨rfl, hb1.trans (hb4.mono hb1.size)⟩
end Go.Proofs.Ytigefhlgkmfgmaa
