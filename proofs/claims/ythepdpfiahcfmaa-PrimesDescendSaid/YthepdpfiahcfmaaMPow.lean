/- The contract of modular.Pow. -/
import Derived.Test.YthepdpfiahcfmaaArith0
import Derived.Test.YthepdpfiahcfmaaPow
namespace Go.Proofs.Ythepdpfiahcfmaa
open Go.RowKit
set_option linter.unusedVariables false

set_option maxHeartbeats 400000 in
theorem mpow_any (a k n : Nat) (w : World) (ha : a ≤ 4294967295) (hk : k < 18446744073709551616) (hn : n ≤ 4294967295) : Calls Try.prog 27 #[.int .u32 a, .int .u64 k, .int .u32 n] w (RetNE w (powP a k n)) := by
  have HF := Lib.hid (fits1_at a n w)
  by_cases h : Mok n ∧ a < n
  · have hp : powP a k n = (a ^ k % n, 0) := if_pos h
    obtain ⟨⟨h1, h2⟩, h3⟩ := h
    rw [fits_one'.2 ⟨⟨h1, h2⟩, h3⟩] at HF
    rw [hp]
    obtain ⟨x, hx⟩ : ∃ x, a ^ k % n = x := ⟨_, rfl⟩
    have HP := Lib.hid (fun V => power_p a k n V ha hk h1 hn)
    rw [hx] at HP ⊢
    clear hp hx
    go_enter Try.func27, Try.ntmps27
    go_wp2_with fail
    (with_reducible refine HF.out.mono ?_)
    rintro e w' ⟨rfl, hw'⟩
    subst hw'
    go_wp2_with fail
    (with_reducible refine (HP.out _).mono ?_)
    rintro e w2 ⟨rfl, hb2⟩
    go_wp2_with fail
    go_ret2
    exact .mk rfl rfl ((bel2 w _).trans (hb2.mono (bel2 w _).size))
  · have hp : powP a k n = (0, 2) := if_neg h
    rw [fits_one_no h] at HF
    rw [hp]
    clear hp
    go_enter Try.func27, Try.ntmps27
    go_wp2_with fail
    (with_reducible refine HF.out.mono ?_)
    rintro e w' ⟨rfl, hw'⟩
    subst hw'
    go_wp2_with fail
    go_ret2
    exact .mk rfl rfl (bel2 _ _)

end Go.Proofs.Ythepdpfiahcfmaa
