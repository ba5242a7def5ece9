/- The laws FactorDegrees and FactorRoots of layer 7. -/
import Derived.Test.YtkklacgoeopekaaAw7
import Derived.Test.YtkklacgoeopekaaRDg7
namespace Go.Proofs.Ytkklacgoeopekaa
open Go.RowKit
set_option linter.unusedVariables false

/-- what Degree answers, without cases -/
theorem dg_uni (n : Int) (p : Nat) : ∃ D E : Int, ∀ w e w', RetDg w n p e w' → Below w.heap.size w w' ∧ e = .returned (.tuple #[.int .i64 D, .int .i64 E]) := by
  by_cases h : DgOk n p
  · by_cases hx : ∃ d, Dg n.toNat p d
    · obtain ⟨d, hd⟩ := hx
      refine ⟨d, 0, fun w e w' ⟨hb, hh⟩ => ⟨hb, ?_⟩⟩
      rcases hh with ⟨h1, _⟩ | ⟨_, d', hd', rfl⟩
      · exact absurd h h1
      · obtain rfl := Dg.uniq hd hd'
        rfl
    · refine ⟨0, 0, fun w e w' ⟨hb, hh⟩ => ⟨hb, ?_⟩⟩
      rcases hh with ⟨h1, _⟩ | ⟨_, d', hd', rfl⟩
      · exact absurd h h1
      · exact absurd ⟨d', hd'⟩ hx
  · refine ⟨0, 2, fun w e w' ⟨hb, hh⟩ => ⟨hb, ?_⟩⟩
    rcases hh with ⟨_, rfl⟩ | ⟨h1, _⟩
    · rfl
    · exact absurd h1 h
/-- what Root answers, without cases -/
theorem fr_uni (n : Int) (p : Nat) (r : Int) : ∃ X E : Int, ∀ w e w', RetFr w n p r e w' → Below w.heap.size w w' ∧ e = .returned (.tuple #[.int .u32 X, .int .i64 E]) := by
  by_cases h : DgOk n p ∧ Pl p r
  rotate_left
  · refine ⟨0, 2, fun w e w' ⟨hb, hh⟩ => ⟨hb, ?_⟩⟩
    rcases hh with ⟨_, rfl⟩ | ⟨h1, _⟩ | ⟨h1, _⟩
    · rfl
    · exact absurd h1 h
    · exact absurd ⟨h1.1, h1.2.1⟩ h
  by_cases hm : p % (2 * n.toNat) = 1
  rotate_left
  · refine ⟨0, 4, fun w e w' ⟨hb, hh⟩ => ⟨hb, ?_⟩⟩
    rcases hh with ⟨h1, _⟩ | ⟨_, _, rfl⟩ | ⟨h1, _⟩
    · exact absurd h h1
    · rfl
    · exact absurd h1.2.2 hm
  by_cases hx : ∃ x, FrIs n.toNat p r.toNat x
  · obtain ⟨x, hx⟩ := hx
    refine ⟨x, 0, fun w e w' ⟨hb, hh⟩ => ⟨hb, ?_⟩⟩
    rcases hh with ⟨h1, _⟩ | ⟨_, h1, _⟩ | ⟨_, y, hy, rfl⟩
    · exact absurd h h1
    · exact absurd hm h1
    · obtain ⟨k, rfl, hk2, hk32⟩ := dimF_nat h.1.1
      rw [Int.toNat_natCast] at hx hy hm
      have hr := h.2.2.2.2.1
      have hkp : k < p := by
        rcases Nat.lt_or_ge p (2 * k) with h5 | h5
        · rw [Nat.mod_eq_of_lt h5] at hm
          have := h.2.1
          omega
        · omega
      obtain rfl := FrIs.uniq (by omega) (by omega) hkp hx hy
      rfl
  · refine ⟨0, 0, fun w e w' ⟨hb, hh⟩ => ⟨hb, ?_⟩⟩
    rcases hh with ⟨h1, _⟩ | ⟨_, h1, _⟩ | ⟨_, y, hy, rfl⟩
    · exact absurd h h1
    · exact absurd hm h1
    · exact absurd ⟨y, hy⟩ hx

set_option maxRecDepth 100000 in
set_option maxHeartbeats 4000000 in
theorem factorDegrees_any (n : Int) (p : Nat) (w : World) (hp : p ≤ 4294967295) : Calls Try.prog 5 #[.int .i64 n, .int .u32 p] w (RetV w (.bool true)) := by
  obtain ⟨D, E, hu⟩ := dg_uni n p
  have HU := Lib.hid hu
  have H1 := Lib.hid (degree_any n p w hp)
  clear hu
  have e1 : (D == D) = true := by simp
  have e2 : (E == E) = true := by simp
  go_enter Try.func5, Try.ntmps5
  go_wp2_with fail
  refine H1.out.mono ?_
  rintro e w1 h1
  obtain ⟨hb1, rfl⟩ := HU.out _ _ _ h1
  have H2 := Lib.hid (rdegree_any n p w1 hp)
  have HB1 := Lib.hid hb1
  clear hb1 h1 H1
  go_wp2_with fail
  refine H2.out.mono ?_
  rintro e w2 h2
  obtain ⟨hb2, rfl⟩ := HU.out _ _ _ h2
  have HB2 := Lib.hid (HB1.out.trans (hb2.mono HB1.out.size))
  clear hb2 h2 H2
  go_wp2_with fail
  refine (awake7_any w2).mono ?_
  rintro e w3 ⟨rfl, hb3⟩
  go_wp2_with fail
  go_ret
  exact ⟨rfl, HB2.out.trans (hb3.mono HB2.out.size)⟩
set_option maxRecDepth 100000 in
set_option maxHeartbeats 4000000 in
theorem factorRoots_any (n : Int) (p : Nat) (r : Int) (w : World) (hp : p ≤ 4294967295) (hr : r ≤ 9223372036854775807) : Calls Try.prog 7 #[.int .i64 n, .int .u32 p, .int .i64 r] w (RetV w (.bool true)) := by
  obtain ⟨D, E, hu⟩ := fr_uni n p r
  have HU := Lib.hid hu
  have H1 := Lib.hid (froot_any n p r w hp hr)
  clear hu
  have e1 : (D == D) = true := by simp
  have e2 : (E == E) = true := by simp
  go_enter Try.func7, Try.ntmps7
  go_wp2_with fail
  refine H1.out.mono ?_
  rintro e w1 h1
  obtain ⟨hb1, rfl⟩ := HU.out _ _ _ h1
  have H2 := Lib.hid (rroot_any n p r w1 hp hr)
  have HB1 := Lib.hid hb1
  clear hb1 h1 H1
  go_wp2_with fail
  refine H2.out.mono ?_
  rintro e w2 h2
  obtain ⟨hb2, rfl⟩ := HU.out _ _ _ h2
  have HB2 := Lib.hid (HB1.out.trans (hb2.mono HB1.out.size))
  clear hb2 h2 H2
  go_wp2_with fail
  refine (awake7_any w2).mono ?_
  rintro e w3 ⟨rfl, hb3⟩
  go_wp2_with fail
  go_ret
  exact ⟨rfl, HB2.out.trans (hb3.mono HB2.out.size)⟩
end Go.Proofs.Ytkklacgoeopekaa
