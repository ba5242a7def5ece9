/- The walk of the law TransformMaps: it returns true. -/
import Derived.Test.YtbajapjaejpcjaaUni6
import Derived.Test.YtbajapjaejpcjaaSqArg
namespace Go.Proofs.Ytbajapjaejpcjaa
open Go.RowKit
set_option linter.unusedVariables false

set_option maxRecDepth 100000 in
set_option maxHeartbeats 2000000 in
theorem transformMaps_any (n : Int) (q m c : Nat) (A : Option Addr) (a : Nat → Nat) (v : Value) (w : World) (hq : q ≤ 4294967295) (ha : Sq .u32 w 0 w.heap.size A m a) (hm : m ≤ 9223372036854775807) (hab : ∀ j, a j ≤ 4294967295) :
    Calls Try.prog 4 #[.agg #[.int .i64 n, .int .u32 q, .slice A m c, v]] w (RetV w (.bool true)) := by
  have hcx := Cx.new w n q (.slice A m c) v 29
  have hb1 : Below w.heap.size w (w.alloc (.cells #[.int .i64 n, .int .u32 q, .slice A m c, v] 29)) := (Below.refl _ w).alloc (Nat.le_refl _) _
  obtain ⟨w1, hw1⟩ : ∃ w1, w1 = w.alloc (.cells #[.int .i64 n, .int .u32 q, .slice A m c, v] 29) := ⟨_, rfl⟩
  rw [← hw1] at hcx hb1
  have HW1 := Lib.hid hw1
  have HCX := Lib.hid hcx
  have HA := Lib.hid ha
  have HAB := Lib.hid hab
  have c0 := hcx.c0
  have c1 := hcx.c1
  have c2 := hcx.c2
  have c3 := hcx.c3
  have hz1 := hb1.size
  clear hw1 hcx ha hab
  by_cases hlong : 100 < m
  · have d1 : decide ((m : Int) > 100) = true := decide_eq_true (by omega)
    have d2 : decide (100 < m) = true := decide_eq_true hlong
    go_enter Try.func4, Try.ntmps4
    repeat
      fail_if_success rw [← HW1.out]
      go_step
    rw [← HW1.out]
    go_wp2_with fail
    (with_reducible refine (awake_any w1).mono ?_)
    rintro e w2 ⟨rfl, hb2⟩
    go_wp2_with fail
    go_ret
    exact ⟨rfl, hb1.trans (hb2.mono hz1)⟩
  have d1 : decide ((m : Int) > 100) = false := decide_eq_false (by omega)
  have d2 : decide (100 < m) = false := decide_eq_false hlong
  have hm100 : m ≤ 100 := by omega
  clear hlong
  go_enter Try.func4, Try.ntmps4
  repeat
    fail_if_success rw [← HW1.out]
    go_step
  rw [← HW1.out]
  go_wp2_with fail
  (with_reducible refine (made_any n q _ _ w1 hq).mono ?_)
  rintro e w2 ⟨hb2, hh⟩
  have hb12 := hb1.trans (hb2.mono hz1)
  have hz2 := hb12.size
  have hz12 := hb2.size
  have HCX2 := Lib.hid (HCX.out.below hb2 HCX.out.lt)
  clear c0 c1 c2 c3
  rcases hh with ⟨hno, rfl⟩ | ⟨k, b, ψ, s, b2, rfl, hok, rfl, hbg, hbg2, hg, ht, hr⟩
  · clear hno
    go_wp2_with fail
    (with_reducible refine (awake_any w2).mono ?_)
    rintro e w3 ⟨rfl, hb3⟩
    go_wp2_with fail
    go_ret
    exact ⟨rfl, hb12.trans (hb3.mono hz2)⟩
  obtain ⟨hgc, hsh⟩ := hg.share (newOk_nq hok)
  have hnq := newOk_nq hok
  have hk := hg.nb
  have hq2 := hg.rt.pr.1
  have hq31 := hg.q31
  have hψ := hg.psi
  have HG := Lib.hid hg
  have HT := Lib.hid ht
  have HR := Lib.hid hr
  have HGC := Lib.hid hgc
  have HSH := Lib.hid hsh
  obtain ⟨L1, E1, G1, l1, u1, r1⟩ := ret_uni (Okl k q m a) k (fwd q k ψ a) (fun j hj => fwd_out hj)
  obtain ⟨L2, E2, G2, l2, u2, r2⟩ := ret_uni (Okl k q m a) k (ivs q k ψ s a) (fun j hj => ivs_out hj)
  have c2 := HCX2.out.c2
  have hcl := HCX2.out.lt
  clear hok hg ht hr hgc hsh
  go_wp2_with fail
  refine (lent_any A m c a w2 _ _ (HA.out.below hb12 (Nat.le_refl _)) (by omega) hb12.size).mono ?_
  rintro e w3 ⟨rfl, hr3, hb3, hz3⟩
  have hb13 := hb12.trans (hb3.mono hz2)
  have HCX3 := Lib.hid (HCX2.out.below hb3 hcl)
  have HT3 := Lib.hid (HT.out.below hb3 HT.out.lt)
  have HR3 := Lib.hid (HR.out.below hb3 HR.out.lt)
  have HO3 := Lib.hid hr3
  have hbt := HT.out.lt
  have hbr := HR.out.lt
  clear c2 hr3
  have HF := Lib.hid (forward_any b k q ψ s m (m + 1) _ _ _ a w3 HG.out HT3.out (sq_lent HO3.out HA.out.1) hm HAB.out (Nat.le_refl _))
  go_wp2_with fail
  refine HF.out.mono ?_
  rintro e w4 hh
  obtain ⟨hb4, A1, e1, rfl, hs1⟩ := u1 _ _ _ hh
  have hz4 := hb4.size
  have hb14 := hb13.trans (hb4.mono hb13.size)
  have HCX4 := Lib.hid (HCX3.out.below hb4 (by omega))
  have HT4 := Lib.hid (HT3.out.below hb4 (by omega))
  have HR4 := Lib.hid (HR3.out.below hb4 (by omega))
  have HO4 := Lib.hid (rowIs_below HO3.out hb4 HO3.out.lt)
  have HS4 := Lib.hid hs1
  have HI := Lib.hid (inverse6_any b k q ψ s m (m + 1) _ _ _ a w4 HG.out HT4.out (sq_lent HO4.out HA.out.1) hm HAB.out (Nat.le_refl _))
  clear hh hs1
  go_wp2_with fail
  refine HI.out.mono ?_
  rintro e w5 hh
  obtain ⟨hb5, A2, e2, rfl, hs2⟩ := u2 _ _ _ hh
  have hz5 := hb5.size
  have hb15 := hb14.trans (hb5.mono hb14.size)
  have HCX5 := Lib.hid (HCX4.out.below hb5 (by omega))
  have HR5 := Lib.hid (HR4.out.below hb5 (by omega))
  have HO5 := Lib.hid (rowIs_below HO4.out hb5 HO4.out.lt)
  have HS5 := Lib.hid (And.intro (HS4.out.below hb5 (Nat.le_refl _)) hs2)
  have c2 := HCX5.out.c2
  clear hh hs2
  have HK := Lib.hid (kept_any _ m c A a w5 0 _ HO5.out (HA.out.below hb15 (Nat.le_refl _)) (by omega) hb15.size)
  go_wp2_with fail
  refine HK.out.mono ?_
  rintro e w6 ⟨rfl, hb6⟩
  have hz6 := hb6.size
  have hb16 := hb15.trans (hb6.mono hb15.size)
  have HCX6 := Lib.hid (HCX5.out.below hb6 (by omega))
  have HR6 := Lib.hid (HR5.out.below hb6 (by omega))
  have HO6 := Lib.hid (rowIs_below HO5.out hb6 HO5.out.lt)
  have HS6 := Lib.hid (And.intro (HS5.out.1.below hb6 (by omega)) (HS5.out.2.below hb6 (Nat.le_refl _)))
  have hb36 := hb4.trans ((hb5.trans (hb6.mono hz5)).mono hz4)
  clear c2 HK HI HF HO3 HO4 HO5 HS4 HS5 HT3 HT4 HR3 HR4 HR5 HCX2 HCX3 HCX4 HCX5
  go_wp2_with fail
  go_loopw [11] (fun i wr => ∃ j : Nat, j ≤ m ∧ i = .int .i64 j ∧ wr.rowIs w2.heap.size 22 (m + 1) (ku .u32 fun t => if t < j then 4294967295 else lentF m a t) ∧ w6.grownBy wr (some w2.heap.size) ∧ wr.heap.size = w6.heap.size) (fun i _ => m - (intOf i).toNat)
  case atStart =>
    refine ⟨0, Nat.zero_le _, rfl, HO6.out.congr fun j _ => ?_, World.grownBy.refl _ _, rfl⟩
    simp [ku]
  case round =>
    obtain ⟨j, hj, rfl, hrr, hgr, hsz⟩ := hrel
    have HS := Lib.hid hsz
    have HGR := Lib.hid hgr
    have HRR := Lib.hid hrr
    by_cases hjm : j < m
    · have hc2 := hrr.cell (show j < m + 1 by omega)
      simp only [ku, Nat.lt_irrefl, if_false] at hc2
      have hf2 := hrr.frozen j
      clear hrr hgr hsz
      go_wp2
      go_roundw
      case rel =>
        refine ⟨j + 1, hjm, by go_num, ?_, grownBy_setCell HGR.out, by simpa using HS.out⟩
        refine (rowIs_set_ku HRR.out j 4294967295).congr fun t _ => ?_
        simp only [ku]
        congr 2
        by_cases h1 : t = j
        · rw [if_pos h1, if_pos (by omega)]
        · rw [if_neg h1]
          by_cases h2 : t < j
          · rw [if_pos h2, if_pos (by omega)]
          · rw [if_neg h2, if_neg (by omega)]
      case measure => simp [intOf]; omega
    · have hbw : Below w.heap.size w wr := hb16.grown hgr hb16.size (fun g hg => by injection hg with hg; omega)
      have hbr6 : Below w2.heap.size w6 wr := (Below.refl w2.heap.size w6).grown hgr (by omega) (fun g hg => by injection hg with hg; omega)
      have HCX7 := Lib.hid (HCX6.out.below hbr6 (by omega))
      have HR7 := Lib.hid (HR6.out.below hbr6 (by omega))
      have HS7 := Lib.hid (And.intro (HS6.out.1.grown hgr (.inl (by omega)) (by omega)) (HS6.out.2.grown hgr (.inl (by omega)) (by omega)))
      have c2 := HCX7.out.c2
      have hzr := HS.out
      have HRF := Lib.hid (rforward_any b2 k q ψ m c 0 w.heap.size A a wr HR7.out (by omega) (by omega) hq2 hq31 hψ (HA.out.below hbw (Nat.le_refl _)) hm HAB.out hbw.size)
      clear hrr hgr hsz
      go_wp2_with fail
      refine HRF.out.mono ?_
      rintro e w8 hh
      obtain ⟨hb8, A3, e3, rfl, hs3⟩ := r1 _ _ _ hh
      have hz8 := hb8.size
      have hbw8 := hbw.trans (hb8.mono hbw.size)
      have HCX8 := Lib.hid (HCX7.out.below hb8 (by omega))
      have HR8 := Lib.hid (HR7.out.below hb8 (by omega))
      have HS8 := Lib.hid (And.intro (HS7.out.1.below hb8 (by omega)) (And.intro (HS7.out.2.below hb8 (by omega)) hs3))
      clear hh hs3 c2
      have c2 := HCX8.out.c2
      have HRI := Lib.hid (rinverse6_any b2 k q ψ s m c 0 w.heap.size A a w8 HR8.out (by omega) (by omega) hq2 hq31 hψ (HA.out.below hbw8 (Nat.le_refl _)) hm HAB.out hbw8.size HGC.out HSH.out hnq)
      go_wp2_with fail
      refine HRI.out.mono ?_
      rintro e w9 hh
      obtain ⟨hb9, A4, e4, rfl, hs4⟩ := r2 _ _ _ hh
      have hz9 := hb9.size
      have hbw9 := hbw8.trans (hb9.mono hbw8.size)
      have HS9 := Lib.hid (And.intro (HS8.out.1.below hb9 (by omega)) (And.intro (HS8.out.2.1.below hb9 (by omega)) (And.intro (HS8.out.2.2.below hb9 (Nat.le_refl _)) hs4)))
      clear hh hs4 c2
      have HQ1 := Lib.hid (same_any L1 L1 e1 e3 A1 A3 G1 G1 w9 _ _ _ _ HS9.out.1 HS9.out.2.2.1 (by omega) (by omega) (by omega) (by omega))
      rw [sameB_refl] at HQ1
      have f1 : (E1 == E1) = true := beq_self_eq_true _
      have f2 : (E2 == E2) = true := beq_self_eq_true _
      go_wp2_with fail
      refine HQ1.out.mono ?_
      rintro e w10 ⟨rfl, hb10⟩
      have hz10 := hb10.size
      have HQ2 := Lib.hid (same_any L2 L2 e2 e4 A2 A4 G2 G2 w10 _ _ _ _ (HS9.out.2.1.below hb10 (by omega)) (HS9.out.2.2.2.below hb10 (by omega)) (by omega) (by omega) (by omega) (by omega))
      rw [sameB_refl] at HQ2
      go_wp2_with fail
      refine HQ2.out.mono ?_
      rintro e w11 ⟨rfl, hb11⟩
      have hbw11 := hbw9.trans ((hb10.trans (hb11.mono hz10)).mono hbw9.size)
      go_wp2_with fail
      (with_reducible refine (awake_any w11).mono ?_)
      rintro e w12 ⟨rfl, hb12⟩
      go_wp2_with fail
      go_ret
      exact ⟨rfl, hbw11.trans (hb12.mono hbw11.size)⟩
end Go.Proofs.Ytbajapjaejpcjaa
