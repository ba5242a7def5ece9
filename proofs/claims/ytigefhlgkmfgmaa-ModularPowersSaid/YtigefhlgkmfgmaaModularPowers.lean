/- The walk of the law ModularPowers: it returns true. -/
import Derived.Test.YtigefhlgkmfgmaaShown
import Derived.Test.YtigefhlgkmfgmaaArgs
namespace Go.Proofs.Ytigefhlgkmfgmaa
open Go.RowKit
set_option linter.unusedVariables false

set_option maxRecDepth 100000 in
set_option maxHeartbeats 1000000 in
theorem modularPowers_any (a k n : Nat) (w : World) (ha : a ≤ 4294967295) (hk : k < 18446744073709551616) (hn : n ≤ 4294967295) : Calls Try.prog 5 #[.int .u32 a, .int .u64 k, .int .u32 n] w (RetV w (.bool true)) := by
  have H1 := Lib.hid (fun V => mpow_any a k n V ha hk hn)
  have H2 := Lib.hid (fun V => rpow_any a k n V ha hk hn)
  have H3 := Lib.hid (fun V => minv_any a n V)
  have H4 := Lib.hid (fun V => rinv_any a n V ha hn)
  obtain ⟨p, hp⟩ : ∃ p, powP a k n = p := ⟨_, rfl⟩
  rw [hp] at H1 H2
  obtain ⟨q, hq⟩ : ∃ q, invE a n = q := ⟨_, rfl⟩
  rw [hq] at H3 H4
  clear hp hq
  obtain ⟨x, E⟩ := p
  obtain ⟨y, F⟩ := q
  go_enter Try.func5, Try.ntmps5
  go_wp2_with fail
  (with_reducible refine (H1.out w).mono ?_)
  rintro e w1 ⟨rfl, hb1⟩
  go_wp2_with fail
  (with_reducible refine (H2.out w1).mono ?_)
  rintro e w2 ⟨rfl, hb2'⟩
  have hb2 := hb1.trans (hb2'.mono hb1.size)
  go_wp2_with fail
  (with_reducible refine (H3.out w2).mono ?_)
  rintro e w3 ⟨rfl, hb3'⟩
  have hb3 := hb2.trans (hb3'.mono hb2.size)
  go_wp2_with fail
  (with_reducible refine (H4.out w3).mono ?_)
  rintro e w4 ⟨rfl, hb4'⟩
  have hb4 := hb3.trans (hb4'.mono hb3.size)
  go_wp2_with fail
  (with_reducible refine (shown_any w4).mono ?_)
  rintro e w5 ⟨rfl, hb5'⟩
  go_wp2_with fail
  go_ret
  exact ⟨rfl, hb4.trans (hb5'.mono hb4.size)⟩
end Go.Proofs.Ytigefhlgkmfgmaa
