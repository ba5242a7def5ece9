/- The contract of the reference's Inverse. -/
import Derived.Test.YtbajapjaejpcjaaMInv
import Derived.Test.YtbajapjaejpcjaaRet
namespace Go.Proofs.Ytbajapjaejpcjaa
open Go.RowKit

set_option maxHeartbeats 1000000 in
theorem rinverse_any (a m : Nat) (w : World) (ha : a < m) (hm : 2 ≤ m) (hm2 : m ≤ 2147483647) :
    Calls Try.prog 32 #[.int .u32 a, .int .u32 m] w (InvBool a m w) := by
  go_enter Try.func32, Try.ntmps32
  go_wp2
  go_loop [6, 7, 8, 9] (EuState m a) (fun _ s _ _ => (intOf s).toNat)
  case atStart => exact ⟨m, a, 0, 1, EI.start ha, rfl, rfl, rfl, rfl⟩
  case round =>
    obtain ⟨x, y, u, v, hei, rfl, rfl, rfl, rfl⟩ := hrel
    by_cases hy : 0 < y
    · have hstep := Lib.hid (hei.step hy)
      obtain ⟨b1, b2, b3, b4, b5⟩ := hei.bounds hy
      obtain ⟨b6, b7⟩ := quo_bounds x y
      have hle := hei.le
      have htop := hei.top
      have hsm := hei.small
      have h5 := Lib.hid b5
      have hyz : ((y : Int) != 0) = true := by simp; omega
      have hmodlt := Nat.mod_lt x hy
      clear b5 hei
      go_wp2
      go_round
      case rel => exact ⟨y, x % y, v, _, hstep.out, rfl, by rw [← h5.out], rfl, rfl⟩
      case measure =>
        have := h5.out
        simp [intOf]
        omega
    · obtain rfl : y = 0 := by omega
      have hg := hei.end_
      by_cases hx1 : x = 1
      · subst hx1
        have hi := hei.inv hm
        have hsm := hei.small
        by_cases hu : u < 0
        · rw [if_pos hu] at hi
          obtain ⟨i1, i2, i3⟩ := hi
          have H3 := Lib.hid i3
          have HG := Lib.hid hg
          clear hei hg i3
          go_wp2
          go_ret2
          exact ⟨rfl, .inl ⟨HG.out.symm, by rw [H3.out]; rfl⟩⟩
        · rw [if_neg hu] at hi
          obtain ⟨i1, i2, i3⟩ := hi
          have H3 := Lib.hid i3
          have HG := Lib.hid hg
          clear hei hg i3
          go_wp2
          go_ret2
          exact ⟨rfl, .inl ⟨HG.out.symm, by rw [H3.out]; rfl⟩⟩
      · have hxz : ((x : Int) != 1) = true := by simp; omega
        have hle := hei.le
        have HG := Lib.hid hg
        clear hei hg
        go_wp2
        go_ret2
        exact ⟨rfl, .inr ⟨by rw [← HG.out]; exact hx1, rfl⟩⟩

end Go.Proofs.Ytbajapjaejpcjaa
