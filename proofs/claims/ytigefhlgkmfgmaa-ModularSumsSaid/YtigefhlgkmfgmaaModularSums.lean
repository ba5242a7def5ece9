/- The walk of the law ModularSums: it returns true. -/
import Derived.Test.YtigefhlgkmfgmaaShown
import Derived.Test.YtigefhlgkmfgmaaArgs
import Derived.Deep.QuietTactic
import Derived.BigQuiet
namespace Go.Proofs.Ytigefhlgkmfgmaa
open Go.RowKit
set_option linter.unusedVariables false

theorem boxed (w : World) (o : Obj) (q : Nat) : Below w.heap.size w ((w.alloc o).drewN q) := below_drewN ((Below.refl w.heap.size w).alloc (Nat.le_refl _) o) q

set_option maxRecDepth 100000 in
set_option maxHeartbeats 1000000 in
theorem modularSums_any (a b n : Nat) (v : Int) (w : World) (ha : a ≤ 4294967295) (hb : b ≤ 4294967295) (hn : n ≤ 4294967295) (hv : -9223372036854775808 ≤ v) (hv2 : v ≤ 9223372036854775807) :
    Calls Try.prog 10 #[.agg #[.int .u32 a, .int .u32 b, .int .u32 n, .int .i64 v]] w (RetV w (.bool true)) := by
  have hbx := boxed w (.cells #[.int .u32 a, .int .u32 b, .int .u32 n, .int .i64 v] 48)
  have H1 := Lib.hid (fun V => madd_any a b n V ha hb hn)
  have H2 := Lib.hid (fun V => radd_any a b n V ha hb hn)
  have H3 := Lib.hid (fun V => msub_any a b n V ha hb hn)
  have H4 := Lib.hid (fun V => rsub_any a b n V ha hb hn)
  have H5 := Lib.hid (fun V => mmul_any a b n V ha hb hn)
  have H6 := Lib.hid (fun V => rmul_any a b n V ha hb hn)
  have H7 := Lib.hid (fun V => mof_any v n V hv hv2 hn)
  have H8 := Lib.hid (fun V => rof_any v n V hv hv2 hn)
  have H9 := Lib.hid (fun V => mbal_any a n V ha hn)
  have H10 := Lib.hid (fun V => rbal_any a n V ha hn)
  obtain ⟨p1, hp⟩ : ∃ p, addP a b n = p := ⟨_, rfl⟩
  rw [hp] at H1 H2
  clear hp
  obtain ⟨p2, hp⟩ : ∃ p, subP a b n = p := ⟨_, rfl⟩
  rw [hp] at H3 H4
  clear hp
  obtain ⟨p3, hp⟩ : ∃ p, mulP a b n = p := ⟨_, rfl⟩
  rw [hp] at H5 H6
  clear hp
  obtain ⟨p4, hp⟩ : ∃ p, ofP v n = p := ⟨_, rfl⟩
  rw [hp] at H7 H8
  clear hp
  obtain ⟨p5, hp⟩ : ∃ p, balP a n = p := ⟨_, rfl⟩
  rw [hp] at H9 H10
  clear hp
  obtain ⟨x1, E1⟩ := p1
  obtain ⟨x2, E2⟩ := p2
  obtain ⟨x3, E3⟩ := p3
  obtain ⟨x4, E4⟩ := p4
  obtain ⟨x5, E5⟩ := p5
  go_enter Try.func10, Try.ntmps10
  go_wp2_with fail
  go_quiet (fail)
  have hb0 := hbx nq
  generalize World.drewN (w.alloc _) nq = w0 at hb0 ⊢
  clear hbx
  go_wp2_with fail
  (with_reducible refine (H1.out w0).mono ?_)
  rintro e w1 ⟨rfl, hb1'⟩
  have hb1 := hb0.trans (hb1'.mono hb0.size)
  go_wp2_with fail
  (with_reducible refine (H2.out w1).mono ?_)
  rintro e w2 ⟨rfl, hb2'⟩
  have hb2 := hb1.trans (hb2'.mono hb1.size)
  go_wp2_with fail
  (with_reducible refine (H3.out w2).mono ?_)
  rintro e w3 ⟨rfl, hb3'⟩
  have hb3 := hb2.trans (hb3'.mono hb2.size)
  go_wp2_with fail
  (with_reducible refine (H4.out w3).mono ?_)
  rintro e w4 ⟨rfl, hb4'⟩
  have hb4 := hb3.trans (hb4'.mono hb3.size)
  go_wp2_with fail
  (with_reducible refine (H5.out w4).mono ?_)
  rintro e w5 ⟨rfl, hb5'⟩
  have hb5 := hb4.trans (hb5'.mono hb4.size)
  go_wp2_with fail
  (with_reducible refine (H6.out w5).mono ?_)
  rintro e w6 ⟨rfl, hb6'⟩
  have hb6 := hb5.trans (hb6'.mono hb5.size)
  go_wp2_with fail
  (with_reducible refine (H7.out w6).mono ?_)
  rintro e w7 ⟨rfl, hb7'⟩
  have hb7 := hb6.trans (hb7'.mono hb6.size)
  go_wp2_with fail
  (with_reducible refine (H8.out w7).mono ?_)
  rintro e w8 ⟨rfl, hb8'⟩
  have hb8 := hb7.trans (hb8'.mono hb7.size)
  go_wp2_with fail
  (with_reducible refine (H9.out w8).mono ?_)
  rintro e w9 ⟨rfl, hb9'⟩
  have hb9 := hb8.trans (hb9'.mono hb8.size)
  go_wp2_with fail
  (with_reducible refine (H10.out w9).mono ?_)
  rintro e w10 ⟨rfl, hb10'⟩
  have hb10 := hb9.trans (hb10'.mono hb9.size)
  go_wp2_with fail
  (with_reducible refine (shown_any w10).mono ?_)
  rintro e w11 ⟨rfl, hb11'⟩
  go_wp2_with fail
  go_ret
  exact ⟨rfl, hb10.trans (hb11'.mono hb10.size)⟩
end Go.Proofs.Ytigefhlgkmfgmaa
