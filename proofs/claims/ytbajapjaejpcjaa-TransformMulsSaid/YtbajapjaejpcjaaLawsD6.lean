/- The walk of the law TransformMuls: it returns true. -/
import Derived.Test.YtbajapjaejpcjaaUni6
import Derived.Test.YtbajapjaejpcjaaSqArg
import Derived.Deep.RegionHeld3
namespace Go.Proofs.Ytbajapjaejpcjaa
open Go.RowKit
set_option linter.unusedVariables false

theorem cell_two {B b : Nat} {W W' : World} {u v : Value} (hb : Below B W W') (hB : b < B) (h : W.cell? ⟨b, 2, none⟩ = some u ∧ W.cell? ⟨b, 3, none⟩ = some v) : W'.cell? ⟨b, 2, none⟩ = some u ∧ W'.cell? ⟨b, 3, none⟩ = some v :=
  ⟨(hb.cell (p := ⟨b, 2, none⟩) hB).trans h.1, (hb.cell (p := ⟨b, 3, none⟩) hB).trans h.2⟩
theorem long_or {m m' : Nat} (h : 100 < m ∨ 100 < m') : (decide ((m : Int) > 100) = true ∧ decide (100 < m) = true) ∨ (decide ((m : Int) > 100) = false ∧ decide (100 < m) = false ∧ decide ((m' : Int) > 100) = true ∧ decide (100 < m') = true) := by
  by_cases h1 : 100 < m
  · exact .inl ⟨decide_eq_true (by omega), decide_eq_true h1⟩
  · exact .inr ⟨decide_eq_false (by omega), decide_eq_false h1, decide_eq_true (by omega), decide_eq_true (by omega)⟩

set_option maxRecDepth 100000 in
set_option maxHeartbeats 4000000 in
theorem transformMuls_any (n : Int) (q m c m' c' : Nat) (A A' : Option Addr) (a a' : Nat → Nat) (w : World) (hq : q ≤ 4294967295) (ha : Sq .u32 w 0 w.heap.size A m a) (ha' : Sq .u32 w 0 w.heap.size A' m' a') (hm : m ≤ 9223372036854775807) (hm' : m' ≤ 9223372036854775807) (hab : ∀ j, a j ≤ 4294967295) (hab' : ∀ j, a' j ≤ 4294967295) :
    Calls Try.prog 5 #[.agg #[.int .i64 n, .int .u32 q, .slice A m c, .slice A' m' c']] w (RetV w (.bool true)) := by
  have hcx := Cx.new w n q (.slice A m c) (.slice A' m' c') 29
  have hb1 : Below w.heap.size w (w.alloc (.cells #[.int .i64 n, .int .u32 q, .slice A m c, .slice A' m' c'] 29)) := (Below.refl _ w).alloc (Nat.le_refl _) _
  obtain ⟨w1, hw1⟩ : ∃ w1, w1 = w.alloc (.cells #[.int .i64 n, .int .u32 q, .slice A m c, .slice A' m' c'] 29) := ⟨_, rfl⟩
  rw [← hw1] at hcx hb1
  have HW1 := Lib.hid hw1
  have HCX := Lib.hid hcx
  have HA := Lib.hid ha
  have HAB := Lib.hid hab
  have HA' := Lib.hid ha'
  have HAB' := Lib.hid hab'
  have c0 := hcx.c0
  have c1 := hcx.c1
  have c2 := hcx.c2
  have c3 := hcx.c3
  have hz1 := hb1.size
  clear hw1 hcx ha hab ha' hab'
  by_cases hlong : 100 < m ∨ 100 < m'
  · rcases long_or hlong with ⟨d1, d2⟩ | ⟨d1, d2, d3, d4⟩
    all_goals
      clear hlong
      go_enter Try.func5, Try.ntmps5
      repeat
        fail_if_success rw [← HW1.out]
        go_step
      rw [← HW1.out]
      go_wp2_with fail
      (with_reducible refine (awake_any w1).mono ?_)
      rintro e w2 ⟨rfl, hb2⟩
      go_wp2_with fail
      go_ret
      exact ⟨rfl, hb1.trans (hb2.mono hz1)⟩
  have hm100 : m ≤ 100 := by omega
  have hm100' : m' ≤ 100 := by omega
  have d1 : decide ((m : Int) > 100) = false := decide_eq_false (by omega)
  have d2 : decide (100 < m) = false := decide_eq_false (by omega)
  have d3 : decide ((m' : Int) > 100) = false := decide_eq_false (by omega)
  have d4 : decide (100 < m') = false := decide_eq_false (by omega)
  clear hlong
  go_enter Try.func5, Try.ntmps5
  repeat
    fail_if_success rw [← HW1.out]
    go_step
  rw [← HW1.out]
  go_wp2_with fail
  (with_reducible refine (made_any n q _ _ w1 hq).mono ?_)
  rintro e w2 ⟨hb2, hh⟩
  have hb12 := hb1.trans (hb2.mono hz1)
  have hz2 := hb12.size
  have hz12 := hb2.size
  have HCX2 := Lib.hid (HCX.out.below hb2 HCX.out.lt)
  clear c0 c1 c2 c3
  rcases hh with ⟨hno, rfl⟩ | ⟨k, b, ψ, s, b2, rfl, hok, rfl, hbg, hbg2, hg, ht, hr⟩
  · clear hno
    go_wp2_with fail
    (with_reducible refine (awake_any w2).mono ?_)
    rintro e w3 ⟨rfl, hb3⟩
    go_wp2_with fail
    go_ret
    exact ⟨rfl, hb12.trans (hb3.mono hz2)⟩
  have hk := hg.nb
  have hq2 := hg.rt.pr.1
  have hq31 := hg.q31
  have HG := Lib.hid hg
  have HT := Lib.hid ht
  have HR := Lib.hid hr
  obtain ⟨L1, E1, G1, l1, u1, r1⟩ := ret_uni (Okl k q m a ∧ Okl k q m' a') k (prF q k a a') (fun j hj => prF_out hj)
  have c2 := HCX2.out.c2
  have c3 := HCX2.out.c3
  have hcl := HCX2.out.lt
  have HLA := Lib.hid (fun W (h : Below w.heap.size w W) => lent_any A m c a W _ _ (HA.out.below h (Nat.le_refl _)) (by omega) h.size)
  have HLB := Lib.hid (fun W (h : Below w.heap.size w W) => lent_any A' m' c' a' W _ _ (HA'.out.below h (Nat.le_refl _)) (by omega) h.size)
  have hbt := HT.out.lt
  have hbr := HR.out.lt
  clear hok hg ht hr
  go_wp2_with fail
  have hbd : Below w.heap.size w w2.drew := below_drewN hb12 1
  have hzd : w.heap.size ≤ w2.drew.heap.size := hz2
  go_region_held3 (fun w' => w'.cell? ⟨w.heap.size, 2, none⟩ = some (.slice A m c) ∧ w'.cell? ⟨w.heap.size, 3, none⟩ = some (.slice A' m' c'))
    (first
      | exact ⟨c2, c3⟩
      | exact cell_two hb3 hcl ⟨c2, c3⟩
      | exact cell_two hb4 (Nat.lt_of_lt_of_le hcl hb3.size) (cell_two hb3 hcl ⟨c2, c3⟩))
    (first
      | (go_at_call 13; first
        | ((with_reducible refine (HLA.out _ hbd).mono ?_); rintro e w3 ⟨rfl, hrA3, hb3, hz3⟩)
        | ((with_reducible refine (HLB.out _ hbd).mono ?_); rintro e w3 ⟨rfl, hrB3, hb3, hz3⟩)
        | ((with_reducible refine (HLA.out _ hb12).mono ?_); rintro e w3 ⟨rfl, hrA3, hb3, hz3⟩)
        | ((with_reducible refine (HLB.out _ hb12).mono ?_); rintro e w3 ⟨rfl, hrB3, hb3, hz3⟩)
        | ((with_reducible refine (HLA.out _ (hbd.trans (hb3.mono hzd))).mono ?_); rintro e w4 ⟨rfl, hrA4, hb4, hz4⟩)
        | ((with_reducible refine (HLB.out _ (hbd.trans (hb3.mono hzd))).mono ?_); rintro e w4 ⟨rfl, hrB4, hb4, hz4⟩)
        | ((with_reducible refine (HLA.out _ (below_drewN (hbd.trans (hb3.mono hzd)) 1)).mono ?_); rintro e w4 ⟨rfl, hrA4, hb4, hz4⟩)
        | ((with_reducible refine (HLB.out _ (below_drewN (hbd.trans (hb3.mono hzd)) 1)).mono ?_); rintro e w4 ⟨rfl, hrB4, hb4, hz4⟩)
        | fail))
  all_goals
    have hz34 := hb4.size
    have hz23 := hb3.size
    have hzz : w2.drew.heap.size = w2.heap.size := rfl
    have hb24 : Below w2.heap.size w2 w4 := (below_drewN (Below.refl w2.heap.size w2) 1).trans (hb3.trans (hb4.mono hz23))
    have hb14 := hb12.trans (hb24.mono hz2)
    first
      | (have HU := Lib.hid (rowIs_below hrA3 hb4 hrA3.lt); have HV := Lib.hid hrB4; clear hrA3 hrB4)
      | (have HU := Lib.hid hrA4; have HV := Lib.hid (rowIs_below hrB3 hb4 hrB3.lt); clear hrB3 hrA4)
    have HCX4 := Lib.hid (HCX2.out.below hb24 hcl)
    have HT4 := Lib.hid (HT.out.below hb24 hbt)
    have HR4 := Lib.hid (HR.out.below hb24 hbr)
    clear c2 c3 HLA HLB
    have HF := Lib.hid (tmul_any b k q ψ s m (m + 1) m' (m' + 1) _ _ _ _ _ _ a a' w4 HG.out HT4.out (sq_lent HU.out HA.out.1) (sq_lent HV.out HA'.out.1) hm hm' HAB.out HAB'.out (Nat.le_refl _) (Nat.le_refl _))
    go_wp2_with fail
    refine HF.out.mono ?_
    rintro e w5 hh
    obtain ⟨hb5, A1, e1, rfl, hs1⟩ := u1 _ _ _ hh
    have hz5 := hb5.size
    have hb15 := hb14.trans (hb5.mono hb14.size)
    have HCX5 := Lib.hid (HCX4.out.below hb5 (by omega))
    have HR5 := Lib.hid (HR4.out.below hb5 (by omega))
    have HU5 := Lib.hid (rowIs_below HU.out hb5 HU.out.lt)
    have HV5 := Lib.hid (rowIs_below HV.out hb5 HV.out.lt)
    have HS5 := Lib.hid hs1
    have c2 := HCX5.out.c2
    clear hh hs1
    have HK := Lib.hid (kept_any _ m c A a w5 0 _ HU5.out (HA.out.below hb15 (Nat.le_refl _)) (by omega) hb15.size)
    go_wp2_with fail
    refine HK.out.mono ?_
    rintro e w6 ⟨rfl, hb6⟩
    have hz6 := hb6.size
    have hb16 := hb15.trans (hb6.mono hb15.size)
    have HCX6 := Lib.hid (HCX5.out.below hb6 (by omega))
    have HR6 := Lib.hid (HR5.out.below hb6 (by omega))
    have HV6 := Lib.hid (rowIs_below HV5.out hb6 HV5.out.lt)
    have HS6 := Lib.hid (HS5.out.below hb6 (Nat.le_refl _))
    have c3 := HCX6.out.c3
    clear c2 HK
    have HK := Lib.hid (kept_any _ m' c' A' a' w6 0 _ HV6.out (HA'.out.below hb16 (Nat.le_refl _)) (by omega) hb16.size)
    go_wp2_with fail
    refine HK.out.mono ?_
    rintro e w7 ⟨rfl, hb7⟩
    have hz7 := hb7.size
    have hb17 := hb16.trans (hb7.mono hb16.size)
    have HCX7 := Lib.hid (HCX6.out.below hb7 (by omega))
    have HR7 := Lib.hid (HR6.out.below hb7 (by omega))
    have HS7 := Lib.hid (HS6.out.below hb7 (by omega))
    have c2 := HCX7.out.c2
    clear c3 HK
    have c3 := HCX7.out.c3
    have HRF := Lib.hid (rmul6_any b2 k q ψ m c m' c' 0 w.heap.size 0 w.heap.size A A' a a' w7 HR7.out (by omega) (by omega) hq2 hq31 (HA.out.below hb17 (Nat.le_refl _)) (HA'.out.below hb17 (Nat.le_refl _)) hm hm' HAB.out HAB'.out hb17.size hb17.size)
    go_wp2_with fail
    refine HRF.out.mono ?_
    rintro e w8 hh
    obtain ⟨hb8, A3, e3, rfl, hs3⟩ := r1 _ _ _ hh
    have hz8 := hb8.size
    have hb18 := hb17.trans (hb8.mono hb17.size)
    have HS8 := Lib.hid (And.intro (HS7.out.below hb8 (by omega)) hs3)
    clear hh hs3 c2 c3
    have HQ1 := Lib.hid (same_any L1 L1 e1 e3 A1 A3 G1 G1 w8 _ _ _ _ HS8.out.1 HS8.out.2 (by omega) (by omega) (by omega) (by omega))
    rw [sameB_refl] at HQ1
    have f1 : (E1 == E1) = true := beq_self_eq_true _
    go_wp2_with fail
    refine HQ1.out.mono ?_
    rintro e w9 ⟨rfl, hb9⟩
    have hz9 := hb9.size
    have hb19 := hb18.trans (hb9.mono hb18.size)
    go_wp2_with fail
    (with_reducible refine (awake_any w9).mono ?_)
    rintro e w10 ⟨rfl, hb10⟩
    go_wp2_with fail
    go_ret
    exact ⟨rfl, hb19.trans (hb10.mono hb19.size)⟩
end Go.Proofs.Ytbajapjaejpcjaa
