/- The law FactorLifts of layer 7. -/
import Derived.Test.YtkklacgoeopekaaAw7
import Derived.Test.YtkklacgoeopekaaSqZ2
namespace Go.Proofs.Ytkklacgoeopekaa
open Go.RowKit
set_option linter.unusedVariables false

/-- what Lift answers, without cases -/
theorem lf_uni (a : Nat → Int) (n p : Nat) (r : Int) (root : Nat) : ∃ X E : Int, ∀ w e w', RetLf w a n p r root e w' → Below w.heap.size w w' ∧ e = .returned (.tuple #[.int .u32 X, .int .i64 E]) := by
  by_cases h : Pl p r ∧ root < p
  rotate_left
  · refine ⟨0, 2, fun w e w' ⟨hb, hh⟩ => ⟨hb, ?_⟩⟩
    rcases hh with ⟨_, rfl⟩ | ⟨h1, _⟩ | ⟨h1, _⟩ | ⟨h1, _⟩
    · rfl
    · exact absurd h1 h
    · exact absurd h1 h
    · exact absurd h1 h
  by_cases hn : 256 < n
  · refine ⟨0, 3, fun w e w' ⟨hb, hh⟩ => ⟨hb, ?_⟩⟩
    rcases hh with ⟨h1, _⟩ | ⟨_, _, rfl⟩ | ⟨_, h1, _⟩ | ⟨_, h1, _⟩
    · exact absurd h h1
    · rfl
    · omega
    · omega
  by_cases hl : LfPre a n p root
  rotate_left
  · refine ⟨0, 4, fun w e w' ⟨hb, hh⟩ => ⟨hb, ?_⟩⟩
    rcases hh with ⟨h1, _⟩ | ⟨_, h1, _⟩ | ⟨_, _, _, rfl⟩ | ⟨_, _, h1, _⟩
    · exact absurd h h1
    · exact absurd h1 hn
    · rfl
    · exact absurd h1 hl
  by_cases hx : ∃ x, Lf a n p r.toNat root x
  · obtain ⟨x, hx⟩ := hx
    refine ⟨x, 0, fun w e w' ⟨hb, hh⟩ => ⟨hb, ?_⟩⟩
    rcases hh with ⟨h1, _⟩ | ⟨_, h1, _⟩ | ⟨_, _, h1, _⟩ | ⟨_, _, _, y, hy, rfl⟩
    · exact absurd h h1
    · exact absurd h1 hn
    · exact absurd hl h1
    · have hr := h.1.2.2.2.1
      obtain rfl := Lf.uniq h.1.2.2.1 hl.2 (by omega) hx hy
      rfl
  · refine ⟨0, 0, fun w e w' ⟨hb, hh⟩ => ⟨hb, ?_⟩⟩
    rcases hh with ⟨h1, _⟩ | ⟨_, h1, _⟩ | ⟨_, _, h1, _⟩ | ⟨_, _, _, y, hy, rfl⟩
    · exact absurd h h1
    · exact absurd h1 hn
    · exact absurd hl h1
    · exact absurd ⟨y, hy⟩ hx
theorem zown_empty7 {k : IntKind} {w : World} {base e : Nat} (h : base ≤ w.heap.size) : Z.Own k (w.alloc (.cells #[] e)) base e (some ⟨w.heap.size, 0, none⟩) 0 0 (fun _ => 0) :=
  Z.Own.of_row (f := fun _ => 0) (World.rowIs_alloc w #[] e _ fun i hi => absurd hi (Nat.not_lt_zero i)) h (Nat.le_refl _) (Nat.zero_le _) (fun _ _ => rfl) fun j hj => absurd hj (Nat.not_lt_zero j)
theorem e64f : ElemOf Try.prog 39 2 .i64 8 := ⟨Try.underlying39, by kernel_rfl⟩
theorem box4 (w : World) (v0 v1 v2 v3 : Value) (t : TypeId) : (w.alloc (.cells #[v0, v1, v2, v3] t)).cell? ⟨w.heap.size, 0, none⟩ = some v0 ∧ (w.alloc (.cells #[v0, v1, v2, v3] t)).cell? ⟨w.heap.size, 1, none⟩ = some v1 ∧ (w.alloc (.cells #[v0, v1, v2, v3] t)).cell? ⟨w.heap.size, 2, none⟩ = some v2 ∧ (w.alloc (.cells #[v0, v1, v2, v3] t)).cell? ⟨w.heap.size, 3, none⟩ = some v3 := by
  refine ⟨?_, ?_, ?_, ?_⟩ <;> rw [World.cell?_alloc_new] <;> rfl

set_option maxRecDepth 100000 in
set_option maxHeartbeats 40000000 in
theorem factorLifts_any (m c p root : Nat) (r : Int) (A : Option Addr) (a : Nat → Int) (w : World) (hp : p ≤ 4294967295) (hr : r ≤ 9223372036854775807) (hroot : root ≤ 4294967295) (ha : Z.Sq .i64 w 0 w.heap.size A m a) (hm9 : m ≤ 9223372036854775807) :
    Calls Try.prog 8 #[.agg #[.slice A m c, .int .u32 p, .int .i64 r, .int .u32 root]] w (RetV w (.bool true)) := by
  obtain ⟨w1, hw1⟩ : ∃ w1, w1 = w.alloc (.cells #[.slice A m c, .int .u32 (p : Int), .int .i64 r, .int .u32 (root : Int)] 44) := ⟨_, rfl⟩
  have hb01 : Below w.heap.size w w1 := by rw [hw1]; exact (Below.refl _ w).alloc (Nat.le_refl _) _
  have HB01 := Lib.hid hb01
  have HW1 := Lib.hid hw1
  by_cases hbig : 300 < m ∨ (p < 65536 ∧ 3000000 < m * p)
  · have HW := Lib.hid (awake7_any w1)
    by_cases h1 : 300 < m
    · have d1 : decide ((m : Int) > 300) = true := decide_eq_true (by omega)
      clear hb01 hw1 hbig
      go_enter Try.func8, Try.ntmps8
      go_wp2_with fail
      rw [← HW1.out]
      refine HW.out.mono ?_
      rintro e w2 ⟨rfl, hb2⟩
      go_wp2_with fail
      go_ret
      exact ⟨rfl, HB01.out.trans (hb2.mono HB01.out.size)⟩
    · obtain ⟨h2, h3⟩ : p < 65536 ∧ 3000000 < m * p := by
        rcases hbig with h | h
        · exact absurd h h1
        · exact h
      have d1 : decide ((m : Int) > 300) = false := decide_eq_false (by omega)
      have d2 : decide ((p : Int) < 65536) = true := decide_eq_true (by omega)
      have hmp : m * p ≤ 300 * 65536 := Nat.mul_le_mul (by omega) (by omega)
      obtain ⟨q, hq⟩ : ∃ q, m * p = q := ⟨_, rfl⟩
      have hqi : (m : Int) * (p : Int) = (q : Int) := by rw [← hq]; simp
      rw [hq] at h3 hmp
      have d3 : decide ((q : Int) > 3000000) = true := decide_eq_true (by omega)
      clear hb01 hw1 hbig hq
      go_enter Try.func8, Try.ntmps8
      go_wp2_with fail
      rw [← HW1.out]
      refine HW.out.mono ?_
      rintro e w2 ⟨rfl, hb2⟩
      go_wp2_with fail
      go_ret
      exact ⟨rfl, HB01.out.trans (hb2.mono HB01.out.size)⟩
  obtain ⟨X, E, hu⟩ := lf_uni a m p r root
  have HU := Lib.hid hu
  have HA := Lib.hid ha
  have h1 : m ≤ 300 := by omega
  have d1 : decide ((m : Int) > 300) = false := decide_eq_false (by omega)
  obtain ⟨b0, b1, b2, b3⟩ := box4 w (.slice A m c) (.int .u32 (p : Int)) (.int .i64 r) (.int .u32 (root : Int)) 44
  rw [← hw1] at b0 b1 b2 b3
  have hz1 : w1.heap.size = w.heap.size + 1 := by rw [hw1]; simp
  have HZ1 := Lib.hid hz1
  have HCL : Hid (∀ W : World, Below w1.heap.size w1 W → W.cell? ⟨w.heap.size, 0, none⟩ = some (.slice A m c) ∧ W.cell? ⟨w.heap.size, 1, none⟩ = some (.int .u32 (p : Int)) ∧ W.cell? ⟨w.heap.size, 2, none⟩ = some (.int .i64 r) ∧ W.cell? ⟨w.heap.size, 3, none⟩ = some (.int .u32 (root : Int))) := Lib.hid fun W hW =>
    have hlt : w.heap.size < w1.heap.size := by omega
    ⟨(hW.cell (p := ⟨w.heap.size, 0, none⟩) hlt).trans b0, (hW.cell (p := ⟨w.heap.size, 1, none⟩) hlt).trans b1, (hW.cell (p := ⟨w.heap.size, 2, none⟩) hlt).trans b2, (hW.cell (p := ⟨w.heap.size, 3, none⟩) hlt).trans b3⟩
  have HOE : Hid (Z.Own .i64 (w1.alloc (.cells #[] 2)) w1.heap.size 2 (some ⟨w.heap.size + 1, 0, none⟩) 0 0 (fun _ => 0)) := Lib.hid (by rw [← hz1]; exact zown_empty7 (Nat.le_refl _))
  have hba : Below w1.heap.size w1 (w1.alloc (.cells #[] 2)) := (Below.refl _ w1).alloc (Nat.le_refl _) _
  have HSA := Lib.hid ((ha.below hb01 (Nat.le_refl _)).below (hba.mono hb01.size) (Nat.le_refl _))
  have HBA := Lib.hid hba
  have e1 : (X == X) = true := by simp
  have e2 : (E == E) = true := by simp
  have hcase : (65536 ≤ p) ∨ (p < 65536 ∧ m * p ≤ 3000000) := by omega
  clear hu ha hb01 hw1 b0 b1 b2 b3 hbig hba hz1
  rcases hcase with h2 | ⟨h2, h3⟩
  · have d2 : decide ((p : Int) < 65536) = false := decide_eq_false (by omega)
    go_enter Try.func8, Try.ntmps8
    go_wp2_with (at_builtin; rw [← HW1.out]; refine Z.wpl_append (n := 0) rfl _ _ _ rfl e64f rfl HOE.out rfl HSA.out a (fun j hj => absurd hj (Nat.not_lt_zero j)) (fun j => by rw [Nat.zero_add]) (by unfold maxLen; omega) (by omega) (by simp) ?_; intro A2 c2 w2 hown2 hg2 hb2 hat2; have HB2 := Lib.hid (HBA.out.trans hb2); have HO2 := Lib.hid hown2; obtain ⟨q0, q1, q2, q3⟩ := HCL.out w2 (HBA.out.trans hb2); clear hown2 hg2 hb2 hat2)
    rw [Nat.zero_add] at HO2
    have hz2 := HB2.out.size
    have HL := Lib.hid (flift_any m c2 p root 0 w2.heap.size r A2 a w2 (HO2.out.sq (Nat.zero_le _)) hm9 hp hr hroot (Nat.le_refl _))
    clear q0 q1 q2 q3
    refine HL.out.mono ?_
    rintro e w3 h3'
    obtain ⟨hb3, rfl⟩ := HU.out _ _ _ h3'
    have HB3 := Lib.hid (HB2.out.trans (hb3.mono hz2))
    have HO3 := Lib.hid (HO2.out.below hb3 (Nat.le_refl _))
    have HA3 := Lib.hid ((HA.out.below (HB01.out.trans (HB3.out.mono HB01.out.size)) (Nat.le_refl _)))
    obtain ⟨t0, t1, t2, t3⟩ := HCL.out w3 HB3.out
    clear hb3 h3' HL
    go_wp2_with fail
    go_loopw [6] (fun I w' => ∃ i : Nat, I = .int .i64 (i : Int) ∧ i ≤ m ∧ ∃ d, w' = w3.drewN d) (fun I _ => m - (intOf I).toNat)
    case atStart => exact ⟨0, rfl, Nat.zero_le _, 0, rfl⟩
    case round =>
      obtain ⟨i, rfl, hi, d, rfl⟩ := hrel
      have y0 : (w3.drewN d).cell? ⟨w.heap.size, 0, none⟩ = some (.slice A m c) := t0
      have y1 : (w3.drewN d).cell? ⟨w.heap.size, 1, none⟩ = some (.int .u32 (p : Int)) := t1
      have y2 : (w3.drewN d).cell? ⟨w.heap.size, 2, none⟩ = some (.int .i64 r) := t2
      have y3 : (w3.drewN d).cell? ⟨w.heap.size, 3, none⟩ = some (.int .u32 (root : Int)) := t3
      by_cases hin : i < m
      · have f1 : decide ((i : Int) < (m : Int)) = true := decide_eq_true (by omega)
        obtain ⟨g, o, hAe, _, hg, hc⟩ := HA3.out.2 (by omega)
        obtain ⟨g2, o2, hAe2, _, hg2, hc2⟩ := (HO3.out.sq (Nat.zero_le _)).2 (by omega)
        have k1 := hc i hin
        have k2 := hc2 i hin
        have k1d : (w3.drewN d).cell? ⟨g, o + i, none⟩ = some (.int .i64 (a i)) := k1
        have k2d : (w3.drewN d).cell? ⟨g2, o2 + i, none⟩ = some (.int .i64 (a i)) := k2
        obtain ⟨v, hv⟩ : ∃ v, a i = v := ⟨_, rfl⟩
        rw [hv] at k1 k2 k1d k2d
        rw [hAe] at y0 t0
        rw [hAe2]
        have f2 : (v != v) = false := by simp
        have i0 : 0 ≤ (i : Int) := by omega
        have i1 : (i : Int) < (m : Int) := by omega
        clear hc hc2 hv hAe hAe2
        go_wp2
        go_quiet (fail)
        go_wp2
        go_roundw
        case rel => exact ⟨i + 1, by go_num, hin, _, by first | rfl | exact (World.drewN_drewN _ _ _)⟩
        case measure => simp only [intOf]; omega
      · obtain rfl : m = i := by omega
        have f1 : decide ((m : Int) < (m : Int)) = false := decide_eq_false (by omega)
        have HA4 : Hid (Si (w3.drewN d) 0 w.heap.size A m a) := Lib.hid HA3.out
        have HL4 := Lib.hid (rlift_any m c p root 0 w.heap.size r A a (w3.drewN d) HA4.out hm9 hp hr hroot (by have := HB3.out.size; have := HZ1.out; show w.heap.size ≤ w3.heap.size; omega))
        go_wp2_with fail
        refine HL4.out.mono ?_
        rintro e w5 h5'
        obtain ⟨hb5, rfl⟩ := HU.out _ _ _ h5'
        have HB5 := Lib.hid (HB01.out.trans (((below_drewN HB3.out d).trans (hb5.mono (show w1.heap.size ≤ w3.heap.size from HB3.out.size))).mono HB01.out.size))
        clear hb5 h5' HL4
        go_wp2_with fail
        refine (awake7_any w5).mono ?_
        rintro e w6 ⟨rfl, hb6⟩
        go_wp2_with fail
        go_ret
        exact ⟨rfl, HB5.out.trans (hb6.mono HB5.out.size)⟩
  · have d2 : decide ((p : Int) < 65536) = true := decide_eq_true (by omega)
    obtain ⟨q, hq⟩ : ∃ q, m * p = q := ⟨_, rfl⟩
    have hqi : (m : Int) * (p : Int) = (q : Int) := by rw [← hq]; simp
    rw [hq] at h3
    have d3 : decide ((q : Int) > 3000000) = false := decide_eq_false (by omega)
    clear hq
    go_enter Try.func8, Try.ntmps8
    go_wp2_with (at_builtin; rw [← HW1.out]; refine Z.wpl_append (n := 0) rfl _ _ _ rfl e64f rfl HOE.out rfl HSA.out a (fun j hj => absurd hj (Nat.not_lt_zero j)) (fun j => by rw [Nat.zero_add]) (by unfold maxLen; omega) (by omega) (by simp) ?_; intro A2 c2 w2 hown2 hg2 hb2 hat2; have HB2 := Lib.hid (HBA.out.trans hb2); have HO2 := Lib.hid hown2; obtain ⟨q0, q1, q2, q3⟩ := HCL.out w2 (HBA.out.trans hb2); clear hown2 hg2 hb2 hat2)
    rw [Nat.zero_add] at HO2
    have hz2 := HB2.out.size
    have HL := Lib.hid (flift_any m c2 p root 0 w2.heap.size r A2 a w2 (HO2.out.sq (Nat.zero_le _)) hm9 hp hr hroot (Nat.le_refl _))
    clear q0 q1 q2 q3
    refine HL.out.mono ?_
    rintro e w3 h3'
    obtain ⟨hb3, rfl⟩ := HU.out _ _ _ h3'
    have HB3 := Lib.hid (HB2.out.trans (hb3.mono hz2))
    have HO3 := Lib.hid (HO2.out.below hb3 (Nat.le_refl _))
    have HA3 := Lib.hid ((HA.out.below (HB01.out.trans (HB3.out.mono HB01.out.size)) (Nat.le_refl _)))
    obtain ⟨t0, t1, t2, t3⟩ := HCL.out w3 HB3.out
    clear hb3 h3' HL
    go_wp2_with fail
    go_loopw [6] (fun I w' => ∃ i : Nat, I = .int .i64 (i : Int) ∧ i ≤ m ∧ ∃ d, w' = w3.drewN d) (fun I _ => m - (intOf I).toNat)
    case atStart => exact ⟨0, rfl, Nat.zero_le _, 0, rfl⟩
    case round =>
      obtain ⟨i, rfl, hi, d, rfl⟩ := hrel
      have y0 : (w3.drewN d).cell? ⟨w.heap.size, 0, none⟩ = some (.slice A m c) := t0
      have y1 : (w3.drewN d).cell? ⟨w.heap.size, 1, none⟩ = some (.int .u32 (p : Int)) := t1
      have y2 : (w3.drewN d).cell? ⟨w.heap.size, 2, none⟩ = some (.int .i64 r) := t2
      have y3 : (w3.drewN d).cell? ⟨w.heap.size, 3, none⟩ = some (.int .u32 (root : Int)) := t3
      by_cases hin : i < m
      · have f1 : decide ((i : Int) < (m : Int)) = true := decide_eq_true (by omega)
        obtain ⟨g, o, hAe, _, hg, hc⟩ := HA3.out.2 (by omega)
        obtain ⟨g2, o2, hAe2, _, hg2, hc2⟩ := (HO3.out.sq (Nat.zero_le _)).2 (by omega)
        have k1 := hc i hin
        have k2 := hc2 i hin
        have k1d : (w3.drewN d).cell? ⟨g, o + i, none⟩ = some (.int .i64 (a i)) := k1
        have k2d : (w3.drewN d).cell? ⟨g2, o2 + i, none⟩ = some (.int .i64 (a i)) := k2
        obtain ⟨v, hv⟩ : ∃ v, a i = v := ⟨_, rfl⟩
        rw [hv] at k1 k2 k1d k2d
        rw [hAe] at y0 t0
        rw [hAe2]
        have f2 : (v != v) = false := by simp
        have i0 : 0 ≤ (i : Int) := by omega
        have i1 : (i : Int) < (m : Int) := by omega
        clear hc hc2 hv hAe hAe2
        go_wp2
        go_quiet (fail)
        go_wp2
        go_roundw
        case rel => exact ⟨i + 1, by go_num, hin, _, by first | rfl | exact (World.drewN_drewN _ _ _)⟩
        case measure => simp only [intOf]; omega
      · obtain rfl : m = i := by omega
        have f1 : decide ((m : Int) < (m : Int)) = false := decide_eq_false (by omega)
        have HA4 : Hid (Si (w3.drewN d) 0 w.heap.size A m a) := Lib.hid HA3.out
        have HL4 := Lib.hid (rlift_any m c p root 0 w.heap.size r A a (w3.drewN d) HA4.out hm9 hp hr hroot (by have := HB3.out.size; have := HZ1.out; show w.heap.size ≤ w3.heap.size; omega))
        go_wp2_with fail
        refine HL4.out.mono ?_
        rintro e w5 h5'
        obtain ⟨hb5, rfl⟩ := HU.out _ _ _ h5'
        have HB5 := Lib.hid (HB01.out.trans (((below_drewN HB3.out d).trans (hb5.mono (show w1.heap.size ≤ w3.heap.size from HB3.out.size))).mono HB01.out.size))
        clear hb5 h5' HL4
        go_wp2_with fail
        refine (awake7_any w5).mono ?_
        rintro e w6 ⟨rfl, hb6⟩
        go_wp2_with fail
        go_ret
        exact ⟨rfl, HB5.out.trans (hb6.mono HB5.out.size)⟩
end Go.Proofs.Ytkklacgoeopekaa
