/- The walk of the law ModularOrders: it returns true. -/
import Derived.Test.YtigefhlgkmfgmaaShown
import Derived.Test.YtigefhlgkmfgmaaArgs
namespace Go.Proofs.Ytigefhlgkmfgmaa
open Go.RowKit
set_option linter.unusedVariables false

theorem ord_same {a n m E m' E' : Nat} (h : ¬ OrdOk a n ∧ m = 0 ∧ E = 2 ∨ OrdOk a n ∧ E = 0 ∧ Ordr n a m) (h' : ¬ OrdOk a n ∧ m' = 0 ∧ E' = 2 ∨ OrdOk a n ∧ E' = 0 ∧ Ordr n a m') : m' = m ∧ E' = E := by
  rcases h with ⟨h1, rfl, rfl⟩ | ⟨h1, rfl, h2⟩ <;> rcases h' with ⟨g1, rfl, rfl⟩ | ⟨g1, rfl, g2⟩
  · exact ⟨rfl, rfl⟩
  · exact absurd g1 h1
  · exact absurd h1 g1
  · exact ⟨g2.uniq h2, rfl⟩
theorem root_same {o n m E m' E' : Nat} (h : RootR o n m E) (h' : RootR o n m' E') : m' = m ∧ E' = E := by
  unfold RootR at h h'
  rcases h with ⟨h1, rfl, rfl⟩ | ⟨h1, h2, rfl, rfl⟩ | ⟨h1, h2, h3, rfl, rfl⟩ | ⟨h1, h2, h3, rfl, h4⟩ <;> rcases h' with ⟨g1, rfl, rfl⟩ | ⟨g1, g2, rfl, rfl⟩ | ⟨g1, g2, g3, rfl, rfl⟩ | ⟨g1, g2, g3, rfl, g4⟩ <;>
    first
    | exact ⟨rfl, rfl⟩
    | exact absurd h1 g1
    | exact absurd g1 h1
    | exact absurd h2 (by omega)
    | exact absurd h3 g3
    | exact absurd g3 h3
    | exact ⟨g4.uniq h4, rfl⟩

set_option maxRecDepth 100000 in
set_option maxHeartbeats 1000000 in
theorem modularOrders_any (a o n : Nat) (w : World) (ha : a ≤ 4294967295) (ho : o ≤ 4294967295) (hn : n ≤ 4294967295) : Calls Try.prog 8 #[.int .u32 a, .int .u32 o, .int .u32 n] w (RetV w (.bool true)) := by
  have H1 := Lib.hid (fun V => order_any a n V hn ha)
  have H2 := Lib.hid (fun V => rorder_any a n V hn ha)
  have H3 := Lib.hid (fun V => root_any o n V hn ho)
  have H4 := Lib.hid (fun V => rroot_any o n V hn ho)
  go_enter Try.func8, Try.ntmps8
  go_wp2_with fail
  (with_reducible refine (H1.out w).mono ?_)
  rintro e w1 ⟨m, E, rfl, hr1, hb1⟩
  have HR1 := Lib.hid hr1
  clear hr1
  go_wp2_with fail
  (with_reducible refine (H2.out w1).mono ?_)
  rintro e w2 ⟨m', E', rfl, hr2, hb2'⟩
  obtain ⟨rfl, rfl⟩ := ord_same HR1.out hr2
  have hb2 := hb1.trans (hb2'.mono hb1.size)
  clear hr2
  go_wp2_with fail
  (with_reducible refine (H3.out w2).mono ?_)
  rintro e w3 ⟨v, F, rfl, hr3, hb3'⟩
  have hb3 := hb2.trans (hb3'.mono hb2.size)
  have HR3 := Lib.hid hr3
  clear hr3
  go_wp2_with fail
  (with_reducible refine (H4.out w3).mono ?_)
  rintro e w4 ⟨v', F', rfl, hr4, hb4'⟩
  have hb4 := hb3.trans (hb4'.mono hb3.size)
  obtain ⟨rfl, rfl⟩ := root_same HR3.out hr4
  clear hr4
  go_wp2_with fail
  (with_reducible refine (shown_any w4).mono ?_)
  rintro e w5 ⟨rfl, hb5'⟩
  go_wp2_with fail
  go_ret
  exact ⟨rfl, hb4.trans (hb5'.mono hb4.size)⟩
end Go.Proofs.Ytigefhlgkmfgmaa
