/- The walk of the law SlotsProducts: it returns true. -/
import Derived.Test.YtcnkddoipmaddaaLawsE8
import Derived.Test.YtcnkddoipmaddaaPrd8
namespace Go.Proofs.Ytcnkddoipmaddaa
open Go.RowKit
set_option linter.unusedVariables false

set_option maxRecDepth 100000 in
set_option maxHeartbeats 8000000 in
theorem slotsProducts_any (n : Int) (p : Nat) (r ee : Int) (m c m2 c2 : Nat) (A A2 : Option Addr) (a a2 : Nat → Int) (w : World) (hp : p ≤ 4294967295) (hr : r ≤ 9223372036854775807) (ha : Z.Sq .i64 w 0 w.heap.size A m a) (hm : m ≤ 9223372036854775807) (ha2 : Z.Sq .i64 w 0 w.heap.size A2 m2 a2) (hm2 : m2 ≤ 9223372036854775807) :
    Calls Try.prog 5 #[.agg #[.int .i64 n, .int .u32 p, .int .i64 r, .int .i64 ee, .slice A m c, .slice A2 m2 c2]] w (RetV w (.bool true)) := by
  have hcx := Cx8.new w n p r ee (.slice A m c) (.slice A2 m2 c2) 25
  have hb1 : Below w.heap.size w (w.alloc (.cells #[.int .i64 n, .int .u32 p, .int .i64 r, .int .i64 ee, .slice A m c, .slice A2 m2 c2] 25)) := (Below.refl _ w).alloc (Nat.le_refl _) _
  obtain ⟨w1, hw1⟩ : ∃ w1, w1 = w.alloc (.cells #[.int .i64 n, .int .u32 p, .int .i64 r, .int .i64 ee, .slice A m c, .slice A2 m2 c2] 25) := ⟨_, rfl⟩
  rw [← hw1] at hcx hb1
  have HW1 := Lib.hid hw1
  have HCX := Lib.hid hcx
  have c0 := hcx.c0
  have c1 := hcx.c1
  have cc2 := hcx.c2
  have hz1 := hb1.size
  clear hw1 hcx
  have HA := Lib.hid ha
  have HA2 := Lib.hid ha2
  clear ha ha2
  go_enter Try.func5, Try.ntmps5
  repeat
    fail_if_success rw [← HW1.out]
    go_step
  rw [← HW1.out]
  go_wp2_with fail
  (with_reducible refine (new8_any n p r w1 hp hr).mono ?_)
  rintro e w2 ⟨hb2, hh⟩
  have hb12 := hb1.trans (hb2.mono hz1)
  have hz2 := hb12.size
  have HCX2 := Lib.hid (HCX.out.below hb2 HCX.out.lt)
  clear c0 c1 cc2
  rcases hh with ⟨hno, rfl⟩ | ⟨hok, b, x, rfl, hx, hsl⟩
  · clear hno
    go_wp2_with fail
    (with_reducible refine (awake8_any w2).mono ?_)
    rintro e w3 ⟨rfl, hb3⟩
    go_wp2_with fail
    go_ret
    exact ⟨rfl, hb12.trans (hb3.mono hz2)⟩
  obtain ⟨kk, R, rfl, rfl⟩ := new8_open hok
  rw [Int.toNat_natCast, Int.toNat_natCast] at hx hsl
  have HG := Lib.hid (g8_of hok hx)
  have HS2 := Lib.hid hsl
  obtain ⟨hn4, hn32⟩ := HG.out.nb
  clear hok hx hsl
  have c3 := HCX2.out.c3
  have c4 := HCX2.out.c4
  have HD := Lib.hid (decode_any _ b kk p R x m c 0 w.heap.size ee A a w2 HG.out HS2.out (HA.out.below hb12 (Nat.le_refl _)) hm hz2)
  go_wp2_with fail
  refine HD.out.mono ?_
  rintro e w3 ⟨hb3, hh⟩
  have hb13 := hb12.trans (hb3.mono hz2)
  have hz3 := hb13.size
  have HCX3 := Lib.hid (HCX2.out.below hb3 HCX2.out.lt)
  have HS3 := Lib.hid (HS2.out.below hb3 (Nat.le_refl _))
  obtain ⟨A3, L3, e3, E3, rfl, hA3⟩ : ∃ (A3 : Option Addr) (L3 e3 : Nat) (E3 : Int), e = .returned (.tuple #[.slice A3 L3 e3, .int .i64 E3]) ∧ ((VOk kk p R m a ee ∧ E3 = 0 ∧ L3 = kk ∧ Z.Sq .i64 w3 w2.heap.size w3.heap.size A3 kk (decF (p ^ ee.toNat) kk x a)) ∨ (¬ VOk kk p R m a ee ∧ E3 = 2)) := by
    rcases hh with ⟨hno, rfl⟩ | ⟨hok, A3, c3, rfl, hsq⟩
    · exact ⟨_, _, _, _, rfl, .inr ⟨hno, rfl⟩⟩
    · exact ⟨_, _, _, _, rfl, .inl ⟨hok, rfl, rfl, hsq⟩⟩
  have HA3 := Lib.hid hA3
  clear hh hA3 c3 c4
  have c3 := HCX3.out.c3
  have c5 := HCX3.out.c5
  have HD2 := Lib.hid (decode_any _ b kk p R x m2 c2 0 w.heap.size ee A2 a2 w3 HG.out HS3.out (HA2.out.below hb13 (Nat.le_refl _)) hm2 hz3)
  go_wp2_with fail
  refine HD2.out.mono ?_
  rintro e w4 ⟨hb4, hh⟩
  have hb14 := hb13.trans (hb4.mono hz3)
  have hz4 := hb14.size
  have hz34 := hb4.size
  have HCX4 := Lib.hid (HCX3.out.below hb4 HCX3.out.lt)
  have HS4 := Lib.hid (HS3.out.below hb4 (Nat.le_refl _))
  clear c3 c5
  rcases HA3.out with ⟨hokA, hE3, hL3, hsq3⟩ | ⟨hno, rfl⟩
  rotate_left
  · obtain ⟨A4, L4, e4, E4, rfl⟩ : ∃ (A4 : Option Addr) (L4 e4 : Nat) (E4 : Int), e = .returned (.tuple #[.slice A4 L4 e4, .int .i64 E4]) := by
      rcases hh with ⟨_, rfl⟩ | ⟨_, A4, c4, rfl, _⟩
      · exact ⟨_, _, _, _, rfl⟩
      · exact ⟨_, _, _, _, rfl⟩
    clear hh hno HA3
    go_wp2_with fail
    (with_reducible refine (awake8_any w4).mono ?_)
    rintro e w5 ⟨rfl, hbx⟩
    go_wp2_with fail
    go_ret
    exact ⟨rfl, hb14.trans (hbx.mono hz4)⟩
  subst hE3
  subst hL3
  rcases hh with ⟨hno, rfl⟩ | ⟨hokB, A4, c4', rfl, hsq4⟩
  · clear hno HA3 hsq3 hokA
    go_wp2_with fail
    (with_reducible refine (awake8_any w4).mono ?_)
    rintro e w5 ⟨rfl, hbx⟩
    go_wp2_with fail
    go_ret
    exact ⟨rfl, hb14.trans (hbx.mono hz4)⟩
  obtain ⟨hE1, hE2, hmk, hBl1⟩ := hokA
  obtain ⟨_, _, hmk2, hBl2⟩ := hokB
  clear HA3
  subst hmk
  have hmk2' : m = m2 := hmk2.symm
  subst hmk2'
  obtain ⟨E, rfl⟩ : ∃ E : Nat, ee = (E : Int) := ⟨ee.toNat, by omega⟩
  rw [Int.toNat_natCast] at hsq3 hsq4 hBl1 hBl2
  have hER : E ≤ R := by omega
  have hE1' : 1 ≤ E := by omega
  obtain ⟨hq3, hq31, hqo⟩ := HG.out.pe hE1' hER
  have hp3 := HG.out.p3
  have hp6 := HG.out.p6
  have hR7 := HG.out.R7
  have HZR := Lib.hid (HG.out.zr.down hE1' hER)
  obtain ⟨q, hq⟩ : ∃ q, p ^ E = q := ⟨_, rfl⟩
  rw [hq] at hq3 hq31 hqo hsq3 hsq4 hBl1 hBl2
  have HQQ := Lib.hid hq
  have HBA := Lib.hid hBl1
  have HBB := Lib.hid hBl2
  have HQ3 := Lib.hid (hsq3.below hb4 (Nat.le_refl _))
  have HQ4 := Lib.hid hsq4
  have d4 : decide ((R : Int) > 7) = false := decide_eq_false (by omega)
  have d5 : decide (7 < R) = false := decide_eq_false (by omega)
  have d6 : decide ((E : Int) > (R : Int)) = false := decide_eq_false (by omega)
  have d7 : decide (R < E) = false := decide_eq_false (by omega)
  have d8 : ((m : Int) != (m : Int)) = false := by simp
  have d9 : decide ((p : Int) < 2) = false := decide_eq_false (by omega)
  have d10 : decide (p < 2) = false := decide_eq_false (by omega)
  have c0 := HCX4.out.c0
  have c1 := HCX4.out.c1
  have cc2 := HCX4.out.c2
  have c3 := HCX4.out.c3
  have c4 := HCX4.out.c4
  have c5 := HCX4.out.c5
  clear hE1 hE2 hsq3 hsq4 hBl1 hBl2 hq hmk2
  go_wp2_with fail
  clear d4 d5 d6 d7 d8 d9 d10 cc2 c4 c5
  go_loop [9, 10] (fun M I => ∃ i mm : Nat, M = .int .i64 (mm : Int) ∧ I = .int .i64 (i : Int) ∧ i ≤ E ∧ mm ≤ 2147483647 ∧ p ^ i = mm) (fun _ I => E - (intOf I).toNat)
  case atStart => exact ⟨0, 1, rfl, rfl, Nat.zero_le _, by omega, Nat.pow_zero p⟩
  case round =>
    obtain ⟨i, mm, rfl, rfl, hik, hmb, hpm⟩ := hrel
    by_cases hlt : i < E
    · obtain ⟨mq, hmq⟩ : ∃ mq, mm * p = mq := ⟨_, rfl⟩
      have hmqi : (mm : Int) * (p : Int) = (mq : Int) := by rw [← hmq]; simp
      have hp2 : p ^ (i + 1) = mq := by rw [Nat.pow_succ, hpm, hmq]
      have hm3 : mq ≤ 2147483647 := by
        have := Nat.pow_le_pow_right (show 0 < p by omega) (show i + 1 ≤ E by omega)
        have := HQQ.out
        omega
      have e1 : decide ((i : Int) < (E : Int)) = true := decide_eq_true (by omega)
      have HP2 := Lib.hid hp2
      clear hmq hp2 hpm
      go_wp2
      go_round
      case rel => exact ⟨i + 1, mq, rfl, by go_num, hlt, hm3, HP2.out⟩
      case measure => simp only [intOf]; omega
    · obtain rfl : E = i := by omega
      have e1 : decide ((E : Int) < (E : Int)) = false := decide_eq_false (by omega)
      obtain rfl : q = mm := HQQ.out.symm.trans hpm
      clear hpm c1
      have hr0 := World.rowIs_made w4 (.int .i64 0) m 2
      have hr1 := World.rowIs_made (w4.alloc (.cells (madeCells #[.int .i64 0] m) 2)) (.int .i64 0) m 2
      have hr0 := hr0.alloc (.cells (madeCells #[.int .i64 0] m) 2)
      rw [World.size_alloc] at hr1
      have hb45 : Below w4.heap.size w4 (((w4.alloc (.cells (madeCells #[.int .i64 0] m) 2)).alloc (.cells (madeCells #[.int .i64 0] m) 2)).drew) := (((Below.refl _ w4).alloc (Nat.le_refl _) _).alloc (by rw [World.size_alloc]; omega) _).drew
      obtain ⟨w5, hw5⟩ : ∃ w5, w5 = (((w4.alloc (.cells (madeCells #[.int .i64 0] m) 2)).alloc (.cells (madeCells #[.int .i64 0] m) 2)).drew) := ⟨_, rfl⟩
      have hr0 : w5.rowIs w4.heap.size 2 m (Z.ku .i64 fun _ => 0) := by rw [hw5]; exact hr0.drew
      have hr1 : w5.rowIs (w4.heap.size + 1) 2 m (Z.ku .i64 fun _ => 0) := by rw [hw5]; exact hr1.drew
      rw [← hw5] at hb45
      have HR01 := Lib.hid (And.intro hr0 (And.intro hr1 hb45))
      have HW5 := Lib.hid hw5
      clear hr0 hr1 hb45 hw5
      have mk := run_make_row' (P := Try.prog) 23 2 (.int .i64 0) 8 Try.underlying23 (by kernel_rfl) rfl .i64 .i64 m (by omega) (by omega)
      have HS0 : Hid (∀ W' : World, Below w4.heap.size w4 W' → W'.cell? ⟨w.heap.size, 0, none⟩ = some (.int .i64 (m : Int))) := Lib.hid fun W' hb => (HCX4.out.below hb HCX4.out.lt).c0
      go_wp2
      go_region_held3 (fun w' => w'.cell? ⟨w.heap.size, 0, none⟩ = some (.int .i64 (m : Int)))
        (first
          | exact HS0.out _ (Below.refl _ _)
          | exact HS0.out _ (below_drewN (Below.refl _ _) 1)
          | exact HS0.out _ (((Below.refl _ w4).alloc (Nat.le_refl _) _).drew)
          | exact HS0.out _ ((((Below.refl _ w4).alloc (Nat.le_refl _) _).alloc (by simp) _).drew)
          | fail)
        (fail)
      · go_wp2
        rw [← HW5.out]
        obtain ⟨hrS, hrP, hb45⟩ := HR01.out
        clear HR01 HW5 mk c0 c3
        generalize hbo : w4.heap.size + 1 = bP at hrP ⊢
        generalize hbe : w4.heap.size = bS at hrS ⊢
        have hne : bS ≠ bP := by omega
        have hbSg : w4.heap.size ≤ bS := by omega
        have hbPg : w4.heap.size ≤ bP := by omega
        clear hbo hbe
        have HRS0 := Lib.hid hrS
        have HRP0 := Lib.hid hrP
        have HB0 := Lib.hid hb45
        clear hrS hrP hb45
        go_loopw [13] (fun I wr => ∃ (i : Nat) (fP : Nat → Int), I = .int .i64 (i : Int) ∧ i ≤ m ∧ wr.rowIs bS 2 m (Z.ku .i64 fun t => if t < i then bal q (a t + a2 t) else 0) ∧ wr.rowIs bP 2 m (Z.ku .i64 fP) ∧ PI q m a a2 fP i 0 ∧ Below w4.heap.size w4 wr) (fun I _ => m - (intOf I).toNat)
        case atStart => exact ⟨0, fun _ => 0, rfl, Nat.zero_le _, HRS0.out.congr fun _ _ => rfl, HRP0.out, PI.start (by omega), HB0.out⟩
        case round =>
          clear HRS0 HRP0 HB0
          obtain ⟨i, fP, rfl, him, hrS, hrP, hPI, hbl⟩ := hrel
          have HRS := Lib.hid hrS
          have HRP := Lib.hid hrP
          have HPI := Lib.hid hPI
          have HBE := Lib.hid hbl
          have hzr := hbl.size
          have HCXr := Lib.hid (HCX4.out.below hbl HCX4.out.lt)
          have c0 := HCXr.out.c0
          have c4 := HCXr.out.c4
          have c5 := HCXr.out.c5
          clear hrS hrP hPI hbl
          by_cases hin : i < m
          · have e1 : decide ((i : Int) < (m : Int)) = true := decide_eq_true (by omega)
            obtain ⟨gA, oA, hA1e, _, hgA, q1⟩ := ((HA.out.below hb14 (Nat.le_refl _)).below HBE.out hz4).2 (by omega)
            obtain ⟨gB, oB, hA2e, _, hgB, q2⟩ := ((HA2.out.below hb14 (Nat.le_refl _)).below HBE.out hz4).2 (by omega)
            have kA := q1 i hin
            have kB := q2 i hin
            have hyb := HBA.out i hin
            have hzb := HBB.out i hin
            obtain ⟨y, hy⟩ : ∃ y, a i = y := ⟨_, rfl⟩
            obtain ⟨z, hz⟩ : ∃ z, a2 i = z := ⟨_, rfl⟩
            rw [hy] at kA hyb
            rw [hz] at kB hzb
            rw [hA1e] at c4
            rw [hA2e] at c5
            have HBAL := Lib.hid (fun d => rbal8_any (y + z) q (wr.drewN d) hq3 hq31 hqo)
            obtain ⟨vb, hvb⟩ : ∃ vb, bal q (y + z) = vb := ⟨_, rfl⟩
            rw [hvb] at HBAL
            have HVB : Hid (bal q (a i + a2 i) = vb) := Lib.hid (by rw [hy, hz, hvb])
            have ks := HRS.out.cell hin
            have ksf := HRS.out.frozen i
            simp only [Z.ku] at ks
            rw [if_neg (by omega)] at ks
            have i0 : 0 ≤ (i : Int) := by omega
            have i1 : (i : Int) < (m : Int) := by omega
            have hwyz : wrap64 (y + z) = y + z := wrap64_eq (by omega) (by omega)
            clear q1 q2 hA1e hA2e hy hz hvb
            go_wp2
            refine wp_region_quiet_tail 16 (by kernel_rfl) (by kernel_rfl) ?_
            simp only [List.take_succ_cons, List.take_zero, List.drop_succ_cons, List.drop_zero]
            repeat (go_big_quiet_step ((exact (HBAL.out _).mono fun e w' hh => ⟨hh.1, _, hh.2.symm⟩)))
            refine wpQuiet_nil ?_
            rintro _ ⟨d1, rfl⟩
            go_wp2
            go_loopw [14] (fun K wr2 => ∃ (k : Nat) (fP : Nat → Int), K = .int .i64 (k : Int) ∧ k ≤ m ∧ wr2.rowIs bS 2 m (Z.ku .i64 fun t => if t < i + 1 then bal q (a t + a2 t) else 0) ∧ wr2.rowIs bP 2 m (Z.ku .i64 fP) ∧ PI q m a a2 fP i k ∧ Below w4.heap.size w4 wr2) (fun K _ => m - (intOf K).toNat)
            case atStart =>
              refine ⟨0, fP, rfl, Nat.zero_le _, (Z.rowIs_set_ku (w := wr.drewN d1) HRS.out i vb).congr fun t _ => ?_, World.rowIs.setOther (w := wr.drewN d1) HRP.out hne.symm _, HPI.out, (below_drewN HBE.out d1).setCell (p := ⟨bS, i, none⟩) (show w4.heap.size ≤ bS from hbSg) _⟩
              simp only [Z.ku]
              congr 1
              by_cases hti : t = i
              · rw [if_pos hti, hti, if_pos (Nat.lt_succ_self i), HVB.out]
              · rw [if_neg hti]
                by_cases h2 : t < i
                · rw [if_pos h2, if_pos (by omega)]
                · rw [if_neg h2, if_neg (by omega)]
            case round =>
              clear HRS HRP HPI HBE hzr HCXr c0 c4 c5 kA kB hyb hzb ks ksf HBAL hwyz HVB
              obtain ⟨k, fP, rfl, hkm', hrS, hrP, hPI, hbl⟩ := hrel
              have HRS := Lib.hid hrS
              have HRP := Lib.hid hrP
              have HPI := Lib.hid hPI
              have HBE := Lib.hid hbl
              have HCXr := Lib.hid (HCX4.out.below hbl HCX4.out.lt)
              have c0 := HCXr.out.c0
              have c4 := HCXr.out.c4
              have c5 := HCXr.out.c5
              clear hrS hrP hPI hbl
              by_cases hkm : k < m
              · have e2 : decide ((k : Int) < (m : Int)) = true := decide_eq_true (by omega)
                obtain ⟨gA, oA, hA1e, _, hgA, q1⟩ := ((HA.out.below hb14 (Nat.le_refl _)).below HBE.out hz4).2 (by omega)
                obtain ⟨gB, oB, hA2e, _, hgB, q2⟩ := ((HA2.out.below hb14 (Nat.le_refl _)).below HBE.out hz4).2 (by omega)
                have kA := q1 i hin
                have kB := q2 k hkm
                have hyb := HBA.out i hin
                have hzb := HBB.out k hkm
                obtain ⟨y, hy⟩ : ∃ y, a i = y := ⟨_, rfl⟩
                obtain ⟨z, hz⟩ : ∃ z, a2 k = z := ⟨_, rfl⟩
                rw [hy] at kA hyb
                rw [hz] at kB hzb
                rw [hA1e] at c4
                rw [hA2e] at c5
                obtain ⟨mm, hmm⟩ : ∃ mm, y * z = mm := ⟨_, rfl⟩
                have hmb := bal_mul2 hq31 hyb hzb
                rw [hmm] at hmb
                have k0 : 0 ≤ (k : Int) := by omega
                have k1 : (k : Int) < (m : Int) := by omega
                have hq0 : ¬ q = 0 := by omega
                by_cases hlow : i + k < m
                · have e3 : decide ((i : Int) + (k : Int) < (m : Int)) = true := decide_eq_true (by omega)
                  obtain ⟨t, htd⟩ : ∃ t, i + k = t := ⟨_, rfl⟩
                  have htm : t < m := by omega
                  have hti : (i : Int) + (k : Int) = (t : Int) := by omega
                  obtain ⟨hs1, hs2⟩ := HPI.out.1 t htm
                  obtain ⟨s, hs⟩ : ∃ s, fP t = s := ⟨_, rfl⟩
                  rw [hs] at hs1 hs2
                  obtain ⟨tv, htv, tv1, tv2, tv3⟩ := tm_fact (s + mm) (m := q) (by omega)
                  have hw64 : (wrap64 (s + wrap64 (y * z))).tmod (q : Int) = tv := by rw [hmm, wrap64_eq (z := mm) (by omega) (by omega), wrap64_eq (z := s + mm) (by omega) (by omega), htv]
                  have HNX : Hid (PI q m a a2 (fun u => if u = t then tv else fP u) i (k + 1)) := Lib.hid (by
                    rw [← htd]
                    refine PI.low HPI.out (by omega) ?_ tv1 tv2
                    rw [htd, hs, hy, hz, hmm]
                    exact tv3)
                  have kp := HRP.out.cell htm
                  have kpf := HRP.out.frozen t
                  simp only [Z.ku] at kp
                  rw [hs] at kp
                  have t0 : 0 ≤ (t : Int) := by omega
                  have t1 : (t : Int) < (m : Int) := by omega
                  clear htd hs hy hz tv3 q1 q2 hA1e hA2e
                  go_wp2
                  refine wp_region_quiet_tail 25 (by kernel_rfl) (by kernel_rfl) ?_
                  simp only [List.take_succ_cons, List.take_zero, List.drop_succ_cons, List.drop_zero]
                  repeat (go_big_quiet_step (fail))
                  refine wpQuiet_nil ?_
                  rintro _ ⟨d2, rfl⟩
                  go_wp2
                  all_goals go_roundw
                  case rel => exact ⟨k + 1, _, by go_num, hkm, World.rowIs.setOther (w := wr.drewN d2) HRS.out hne _, Z.rowIs_set_ku (w := wr.drewN d2) HRP.out t tv, HNX.out, (below_drewN HBE.out d2).setCell (p := ⟨bP, t, none⟩) (show w4.heap.size ≤ bP from hbPg) _⟩
                  case measure => simp only [intOf]; omega
                · have e3 : decide ((i : Int) + (k : Int) < (m : Int)) = false := decide_eq_false (by omega)
                  obtain ⟨t, htd⟩ : ∃ t, i + k - m = t := ⟨_, rfl⟩
                  have htm : t < m := by omega
                  have hti : (i : Int) + (k : Int) - (m : Int) = (t : Int) := by omega
                  obtain ⟨hs1, hs2⟩ := HPI.out.1 t htm
                  obtain ⟨s, hs⟩ : ∃ s, fP t = s := ⟨_, rfl⟩
                  rw [hs] at hs1 hs2
                  obtain ⟨tv, htv, tv1, tv2, tv3⟩ := tm_fact (s - mm) (m := q) (by omega)
                  have hw64 : (wrap64 (s - wrap64 (y * z))).tmod (q : Int) = tv := by rw [hmm, wrap64_eq (z := mm) (by omega) (by omega), wrap64_eq (z := s - mm) (by omega) (by omega), htv]
                  have HNX : Hid (PI q m a a2 (fun u => if u = t then tv else fP u) i (k + 1)) := Lib.hid (by
                    rw [← htd]
                    refine PI.high HPI.out (by omega) (by omega) ?_ tv1 tv2
                    rw [htd, hs, hy, hz, hmm]
                    exact tv3)
                  have kp := HRP.out.cell htm
                  have kpf := HRP.out.frozen t
                  simp only [Z.ku] at kp
                  rw [hs] at kp
                  have t0 : 0 ≤ (t : Int) := by omega
                  have t1 : (t : Int) < (m : Int) := by omega
                  clear htd hs hy hz tv3 q1 q2 hA1e hA2e
                  go_wp2
                  refine wp_region_quiet_tail 31 (by kernel_rfl) (by kernel_rfl) ?_
                  simp only [List.take_succ_cons, List.take_zero, List.drop_succ_cons, List.drop_zero]
                  repeat (go_big_quiet_step (fail))
                  refine wpQuiet_nil ?_
                  rintro _ ⟨d2, rfl⟩
                  go_wp2
                  all_goals go_roundw
                  case rel => exact ⟨k + 1, _, by go_num, hkm, World.rowIs.setOther (w := wr.drewN d2) HRS.out hne _, Z.rowIs_set_ku (w := wr.drewN d2) HRP.out t tv, HNX.out, (below_drewN HBE.out d2).setCell (p := ⟨bP, t, none⟩) (show w4.heap.size ≤ bP from hbPg) _⟩
                  case measure => simp only [intOf]; omega
              · obtain rfl : m = k := by omega
                have e2 : decide ((m : Int) < (m : Int)) = false := decide_eq_false (by omega)
                clear c4 c5
                go_wp2
                go_roundw
                case rel => exact ⟨i + 1, fP, by go_num, hin, HRS.out, HRP.out, HPI.out.row, HBE.out⟩
                case measure => simp only [intOf]; omega
          · obtain rfl : m = i := by omega
            have e1 : decide ((m : Int) < (m : Int)) = false := decide_eq_false (by omega)
            clear c4 c5
            rename World => wo
            go_wp2
            go_loopw [15] (fun I wr => ∃ i : Nat, I = .int .i64 (i : Int) ∧ i ≤ m ∧ wr.rowIs bS 2 m (Z.ku .i64 fun t => if t < m then bal q (a t + a2 t) else 0) ∧ wr.rowIs bP 2 m (Z.ku .i64 fun t => if t < i then bal q (fP t) else fP t) ∧ Below w4.heap.size w4 wr) (fun I _ => m - (intOf I).toNat)
            case atStart => exact ⟨0, rfl, Nat.zero_le _, HRS.out, HRP.out.congr fun _ _ => rfl, HBE.out⟩
            case round =>
              clear HRS HRP HBE hzr HCXr c0
              obtain ⟨i, rfl, him2, hrS, hrP, hbl⟩ := hrel
              have HRS := Lib.hid hrS
              have HRP := Lib.hid hrP
              have HBE := Lib.hid hbl
              have hzr := hbl.size
              have HCXr := Lib.hid (HCX4.out.below hbl HCX4.out.lt)
              have c0 := HCXr.out.c0
              clear hrS hrP hbl
              by_cases hin : i < m
              · have e2 : decide ((i : Int) < (m : Int)) = true := decide_eq_true (by omega)
                obtain ⟨s, hs⟩ : ∃ s, fP i = s := ⟨_, rfl⟩
                have kp := HRP.out.cell hin
                have kpf := HRP.out.frozen i
                simp only [Z.ku] at kp
                rw [if_neg (by omega), hs] at kp
                have HBAL := Lib.hid (rbal8_any s q wr hq3 hq31 hqo)
                obtain ⟨vb, hvb⟩ : ∃ vb, bal q s = vb := ⟨_, rfl⟩
                rw [hvb] at HBAL
                have HVB : Hid (bal q (fP i) = vb) := Lib.hid (by rw [hs, hvb])
                have i0 : 0 ≤ (i : Int) := by omega
                have i1 : (i : Int) < (m : Int) := by omega
                clear hs hvb
                go_wp2_with (go_at_call 22; refine HBAL.out.mono ?_; rintro e w' ⟨rfl, hw⟩; subst hw)
                go_roundw
                case rel =>
                  refine ⟨i + 1, by go_num, hin, HRS.out.setOther hne _, (Z.rowIs_set_ku HRP.out i vb).congr fun t _ => ?_, HBE.out.setCell (p := ⟨bP, i, none⟩) (show w4.heap.size ≤ bP from hbPg) _⟩
                  simp only [Z.ku]
                  congr 1
                  by_cases hti : t = i
                  · rw [if_pos hti, if_pos (by omega), hti, HVB.out]
                  · rw [if_neg hti]
                    by_cases h2 : t < i
                    · rw [if_pos h2, if_pos (by omega)]
                    · rw [if_neg h2, if_neg (by omega)]
                case measure => simp only [intOf]; omega
              · obtain rfl : m = i := by omega
                have e2 : decide ((m : Int) < (m : Int)) = false := decide_eq_false (by omega)
                have hb1r := hb14.trans (HBE.out.mono hz4)
                have hz1r := hb1r.size
                have HSr := Lib.hid (HS4.out.below HBE.out (Nat.le_refl _))
                have HQ1r := Lib.hid (And.intro (HQ3.out.below HBE.out hz34) (HQ4.out.below HBE.out (Nat.le_refl _)))
                have hsqS : Z.Sq .i64 wr 0 wr.heap.size (some ⟨bS, 0, none⟩) m (fun t => if t < m then bal q (a t + a2 t) else 0) := Z.Sq.of_row HRS.out (Nat.le_refl _) (Nat.zero_le _) HRS.out.lt (fun t ht => if_neg (by omega)) fun _ _ => rfl
                have hsqP : Z.Sq .i64 wr 0 wr.heap.size (some ⟨bP, 0, none⟩) m (fun t => if t < m then (if t < m then bal q (fP t) else fP t) else 0) := Z.Sq.of_row HRP.out (Nat.le_refl _) (Nat.zero_le _) HRP.out.lt (fun t ht => if_neg (by omega)) fun t ht => by rw [if_pos ht, if_pos ht]
                have HSQP := Lib.hid hsqP
                have HOKF : Hid (∀ F : Nat → Int, Bl q m F → VOk m p R m F (E : Int)) := Lib.hid fun F hF => ⟨by omega, by omega, rfl, by rw [Int.toNat_natCast, HQQ.out]; exact hF⟩
                have HDS := Lib.hid ((decode_any _ b m p R x m m 0 wr.heap.size (E : Int) _ _ wr HG.out HSr.out hsqS hm (Nat.le_refl _)).mono fun e w' h => h.ok (HOKF.out _ fun t ht => by rw [if_pos ht]; exact bal_bound hqo _))
                rw [Int.toNat_natCast, HQQ.out] at HDS
                have c3 := HCXr.out.c3
                clear hsqS hsqP
                go_wp2_with fail
                refine HDS.out.mono ?_
                rintro e w6 ⟨hb6, A6, c6', rfl, hsq6⟩
                have hb16 := hb1r.trans (hb6.mono hz1r)
                have hz6 := hb16.size
                have hzr6 := hb6.size
                have HCX6 := Lib.hid (HCXr.out.below hb6 HCXr.out.lt)
                have HS6 := Lib.hid (HSr.out.below hb6 (Nat.le_refl _))
                have HQ6 := Lib.hid (And.intro (HQ1r.out.1.below hb6 (by omega)) (And.intro (HQ1r.out.2.below hb6 (by omega)) hsq6))
                have HDP := Lib.hid ((decode_any _ b m p R x m m 0 wr.heap.size (E : Int) _ _ w6 HG.out HS6.out (HSQP.out.below hb6 (Nat.le_refl _)) hm hb6.size).mono fun e w' h => h.ok (HOKF.out _ fun t ht => by rw [if_pos ht, if_pos ht]; exact bal_bound hqo _))
                rw [Int.toNat_natCast, HQQ.out] at HDP
                clear hsq6 c3
                have c3 := HCX6.out.c3
                go_wp2_with fail
                refine HDP.out.mono ?_
                rintro e w7 ⟨hb7, A7, c7', rfl, hsq7⟩
                have hb17 := hb16.trans (hb7.mono hz6)
                have hz7 := hb17.size
                have HCX7 := Lib.hid (HCX6.out.below hb7 HCX6.out.lt)
                have HQ7 := Lib.hid (And.intro (HQ6.out.1.below hb7 (by omega)) (And.intro (HQ6.out.2.1.below hb7 (by omega)) (And.intro (HQ6.out.2.2.below hb7 (Nat.le_refl _)) hsq7)))
                have HFAC : Hid (∀ j, j < m → ∀ t : Int, Cg q t (decF q m x a j * decF q m x a2 j) → decF q m x (fun t => if t < m then bal q (a t + a2 t) else 0) j = bal q (decF q m x a j + decF q m x a2 j) ∧ decF q m x (fun t => if t < m then (if t < m then bal q (fP t) else fP t) else 0) j = bal q t) := Lib.hid fun j hj t ht => by
                  refine ⟨dec_add hj, ?_⟩
                  have h1 := dec_mul (p := p) (e := E) (x := x) (a := a) (b := a2) (f := fP) (t := t) HG.out.dim HZR.out hj (by rw [HQQ.out]; exact HPI.out) (by rw [HQQ.out]; exact ht)
                  rw [HQQ.out] at h1
                  rw [← h1]
                  show (if j < m then bal q (decZ m x _ j) else 0) = (if j < m then bal q (decZ m x _ j) else 0)
                  rw [if_pos hj, if_pos hj]
                  refine bal_congr (decZ_cg fun t ht => Cg.of_eq ?_)
                  rw [if_pos ht]
                have HBD : Hid (∀ j, j < m → (-((q / 2 : Nat) : Int) ≤ decF q m x a j ∧ decF q m x a j ≤ ((q / 2 : Nat) : Int)) ∧ (-((q / 2 : Nat) : Int) ≤ decF q m x a2 j ∧ decF q m x a2 j ≤ ((q / 2 : Nat) : Int))) := Lib.hid fun j hj => ⟨decF_bl hqo j hj, decF_bl hqo j hj⟩
                have d8 : ((m : Int) != (m : Int)) = false := by simp
                clear hsq7 c3 c0 HDS HDP HSQP HRS HRP HBE HQ6 HQ1r HPI
                have c0 := HCX7.out.c0
                go_wp2_with fail
                go_loopw [20] (fun I wr2 => ∃ i : Nat, I = .int .i64 (i : Int) ∧ i ≤ m ∧ ∃ d, wr2 = w7.drewN d) (fun I _ => m - (intOf I).toNat)
                case atStart => exact ⟨0, rfl, Nat.zero_le _, 0, rfl⟩
                case round =>
                  obtain ⟨j, rfl, hjm, d, rfl⟩ := hrel
                  by_cases hlt : j < m
                  · have e3 : decide ((j : Int) < (m : Int)) = true := decide_eq_true (by omega)
                    obtain ⟨g1, o1, h1e, _, _, q1⟩ := HQ7.out.1.2 (by omega)
                    obtain ⟨g2, o2, h2e, _, _, q2⟩ := HQ7.out.2.1.2 (by omega)
                    obtain ⟨g3, o3, h3e, _, _, q3⟩ := HQ7.out.2.2.1.2 (by omega)
                    obtain ⟨g4, o4, h4e, _, _, q4⟩ := HQ7.out.2.2.2.2 (by omega)
                    have k1 := q1 j hlt
                    have k2 := q2 j hlt
                    have k3 := q3 j hlt
                    have k4 := q4 j hlt
                    obtain ⟨hbd1, hbd2⟩ := HBD.out j hlt
                    obtain ⟨tv, htv, tv1, tv2, tv3⟩ := tm_fact (decF q m x a j * decF q m x a2 j) (m := q) (by omega)
                    obtain ⟨fa1, fa2⟩ := HFAC.out j hlt tv tv3
                    rw [fa1] at k3
                    rw [fa2] at k4
                    obtain ⟨ya, hya⟩ : ∃ y, decF q m x a j = y := ⟨_, rfl⟩
                    obtain ⟨yb, hyb⟩ : ∃ y, decF q m x a2 j = y := ⟨_, rfl⟩
                    rw [hya] at k1 k3 hbd1 htv
                    rw [hyb] at k2 k3 hbd2 htv
                    obtain ⟨mm, hmm⟩ : ∃ mm, ya * yb = mm := ⟨_, rfl⟩
                    have hmb := bal_mul2 hq31 hbd1 hbd2
                    rw [hmm] at hmb htv
                    obtain ⟨v1, hv1⟩ : ∃ v1, bal q (ya + yb) = v1 := ⟨_, rfl⟩
                    obtain ⟨v2, hv2⟩ : ∃ v2, bal q tv = v2 := ⟨_, rfl⟩
                    rw [hv1] at k3
                    rw [hv2] at k4
                    have HBAL := Lib.hid (fun (z : Int) d => rbal8_any z q (w7.drewN d) hq3 hq31 hqo)
                    rw [h1e, h2e, h3e, h4e]
                    have hww : wrap64 (ya + yb) = ya + yb := wrap64_eq (by omega) (by omega)
                    have hwm : (wrap64 (ya * yb)).tmod (q : Int) = tv := by rw [hmm, wrap64_eq (z := mm) (by omega) (by omega), htv]
                    have e5 : (v1 != v1) = false := by simp
                    have e6 : (v2 != v2) = false := by simp
                    have i0 : 0 ≤ (j : Int) := by omega
                    have i1 : (j : Int) < (m : Int) := by omega
                    have hq0 : ¬ q = 0 := by omega
                    clear q1 q2 q3 q4 h1e h2e h3e h4e hya hyb fa1 fa2 tv3
                    go_wp2
                    go_quiet ((exact (HBAL.out _ _).mono fun e w' hh => ⟨hh.1, _, hh.2.symm⟩))
                    go_wp2
                    go_roundw
                    case rel => exact ⟨j + 1, by go_num, hlt, _, rfl⟩
                    case measure => simp only [intOf]; omega
                  · obtain rfl : m = j := by omega
                    have e3 : decide ((m : Int) < (m : Int)) = false := decide_eq_false (by omega)
                    have hb17d := below_drewN hb17 d
                    have hz7d := hb17d.size
                    go_wp2_with fail
                    (with_reducible refine (awake8_any (w7.drewN d)).mono ?_)
                    rintro e w8 ⟨rfl, hbx⟩
                    go_wp2_with fail
                    go_ret
                    exact ⟨rfl, hb17d.trans (hbx.mono hz7d)⟩
      · go_wp2
        rw [← HW5.out]
        obtain ⟨hrP, hrS, hb45⟩ := HR01.out
        clear HR01 HW5 mk c0 c3
        generalize hbo : w4.heap.size + 1 = bS at hrS ⊢
        generalize hbe : w4.heap.size = bP at hrP ⊢
        have hne : bS ≠ bP := by omega
        have hbSg : w4.heap.size ≤ bS := by omega
        have hbPg : w4.heap.size ≤ bP := by omega
        clear hbo hbe
        have HRS0 := Lib.hid hrS
        have HRP0 := Lib.hid hrP
        have HB0 := Lib.hid hb45
        clear hrS hrP hb45
        go_loopw [13] (fun I wr => ∃ (i : Nat) (fP : Nat → Int), I = .int .i64 (i : Int) ∧ i ≤ m ∧ wr.rowIs bS 2 m (Z.ku .i64 fun t => if t < i then bal q (a t + a2 t) else 0) ∧ wr.rowIs bP 2 m (Z.ku .i64 fP) ∧ PI q m a a2 fP i 0 ∧ Below w4.heap.size w4 wr) (fun I _ => m - (intOf I).toNat)
        case atStart => exact ⟨0, fun _ => 0, rfl, Nat.zero_le _, HRS0.out.congr fun _ _ => rfl, HRP0.out, PI.start (by omega), HB0.out⟩
        case round =>
          clear HRS0 HRP0 HB0
          obtain ⟨i, fP, rfl, him, hrS, hrP, hPI, hbl⟩ := hrel
          have HRS := Lib.hid hrS
          have HRP := Lib.hid hrP
          have HPI := Lib.hid hPI
          have HBE := Lib.hid hbl
          have hzr := hbl.size
          have HCXr := Lib.hid (HCX4.out.below hbl HCX4.out.lt)
          have c0 := HCXr.out.c0
          have c4 := HCXr.out.c4
          have c5 := HCXr.out.c5
          clear hrS hrP hPI hbl
          by_cases hin : i < m
          · have e1 : decide ((i : Int) < (m : Int)) = true := decide_eq_true (by omega)
            obtain ⟨gA, oA, hA1e, _, hgA, q1⟩ := ((HA.out.below hb14 (Nat.le_refl _)).below HBE.out hz4).2 (by omega)
            obtain ⟨gB, oB, hA2e, _, hgB, q2⟩ := ((HA2.out.below hb14 (Nat.le_refl _)).below HBE.out hz4).2 (by omega)
            have kA := q1 i hin
            have kB := q2 i hin
            have hyb := HBA.out i hin
            have hzb := HBB.out i hin
            obtain ⟨y, hy⟩ : ∃ y, a i = y := ⟨_, rfl⟩
            obtain ⟨z, hz⟩ : ∃ z, a2 i = z := ⟨_, rfl⟩
            rw [hy] at kA hyb
            rw [hz] at kB hzb
            rw [hA1e] at c4
            rw [hA2e] at c5
            have HBAL := Lib.hid (fun d => rbal8_any (y + z) q (wr.drewN d) hq3 hq31 hqo)
            obtain ⟨vb, hvb⟩ : ∃ vb, bal q (y + z) = vb := ⟨_, rfl⟩
            rw [hvb] at HBAL
            have HVB : Hid (bal q (a i + a2 i) = vb) := Lib.hid (by rw [hy, hz, hvb])
            have ks := HRS.out.cell hin
            have ksf := HRS.out.frozen i
            simp only [Z.ku] at ks
            rw [if_neg (by omega)] at ks
            have i0 : 0 ≤ (i : Int) := by omega
            have i1 : (i : Int) < (m : Int) := by omega
            have hwyz : wrap64 (y + z) = y + z := wrap64_eq (by omega) (by omega)
            clear q1 q2 hA1e hA2e hy hz hvb
            go_wp2
            refine wp_region_quiet_tail 16 (by kernel_rfl) (by kernel_rfl) ?_
            simp only [List.take_succ_cons, List.take_zero, List.drop_succ_cons, List.drop_zero]
            repeat (go_big_quiet_step ((exact (HBAL.out _).mono fun e w' hh => ⟨hh.1, _, hh.2.symm⟩)))
            refine wpQuiet_nil ?_
            rintro _ ⟨d1, rfl⟩
            go_wp2
            go_loopw [14] (fun K wr2 => ∃ (k : Nat) (fP : Nat → Int), K = .int .i64 (k : Int) ∧ k ≤ m ∧ wr2.rowIs bS 2 m (Z.ku .i64 fun t => if t < i + 1 then bal q (a t + a2 t) else 0) ∧ wr2.rowIs bP 2 m (Z.ku .i64 fP) ∧ PI q m a a2 fP i k ∧ Below w4.heap.size w4 wr2) (fun K _ => m - (intOf K).toNat)
            case atStart =>
              refine ⟨0, fP, rfl, Nat.zero_le _, (Z.rowIs_set_ku (w := wr.drewN d1) HRS.out i vb).congr fun t _ => ?_, World.rowIs.setOther (w := wr.drewN d1) HRP.out hne.symm _, HPI.out, (below_drewN HBE.out d1).setCell (p := ⟨bS, i, none⟩) (show w4.heap.size ≤ bS from hbSg) _⟩
              simp only [Z.ku]
              congr 1
              by_cases hti : t = i
              · rw [if_pos hti, hti, if_pos (Nat.lt_succ_self i), HVB.out]
              · rw [if_neg hti]
                by_cases h2 : t < i
                · rw [if_pos h2, if_pos (by omega)]
                · rw [if_neg h2, if_neg (by omega)]
            case round =>
              clear HRS HRP HPI HBE hzr HCXr c0 c4 c5 kA kB hyb hzb ks ksf HBAL hwyz HVB
              obtain ⟨k, fP, rfl, hkm', hrS, hrP, hPI, hbl⟩ := hrel
              have HRS := Lib.hid hrS
              have HRP := Lib.hid hrP
              have HPI := Lib.hid hPI
              have HBE := Lib.hid hbl
              have HCXr := Lib.hid (HCX4.out.below hbl HCX4.out.lt)
              have c0 := HCXr.out.c0
              have c4 := HCXr.out.c4
              have c5 := HCXr.out.c5
              clear hrS hrP hPI hbl
              by_cases hkm : k < m
              · have e2 : decide ((k : Int) < (m : Int)) = true := decide_eq_true (by omega)
                obtain ⟨gA, oA, hA1e, _, hgA, q1⟩ := ((HA.out.below hb14 (Nat.le_refl _)).below HBE.out hz4).2 (by omega)
                obtain ⟨gB, oB, hA2e, _, hgB, q2⟩ := ((HA2.out.below hb14 (Nat.le_refl _)).below HBE.out hz4).2 (by omega)
                have kA := q1 i hin
                have kB := q2 k hkm
                have hyb := HBA.out i hin
                have hzb := HBB.out k hkm
                obtain ⟨y, hy⟩ : ∃ y, a i = y := ⟨_, rfl⟩
                obtain ⟨z, hz⟩ : ∃ z, a2 k = z := ⟨_, rfl⟩
                rw [hy] at kA hyb
                rw [hz] at kB hzb
                rw [hA1e] at c4
                rw [hA2e] at c5
                obtain ⟨mm, hmm⟩ : ∃ mm, y * z = mm := ⟨_, rfl⟩
                have hmb := bal_mul2 hq31 hyb hzb
                rw [hmm] at hmb
                have k0 : 0 ≤ (k : Int) := by omega
                have k1 : (k : Int) < (m : Int) := by omega
                have hq0 : ¬ q = 0 := by omega
                by_cases hlow : i + k < m
                · have e3 : decide ((i : Int) + (k : Int) < (m : Int)) = true := decide_eq_true (by omega)
                  obtain ⟨t, htd⟩ : ∃ t, i + k = t := ⟨_, rfl⟩
                  have htm : t < m := by omega
                  have hti : (i : Int) + (k : Int) = (t : Int) := by omega
                  obtain ⟨hs1, hs2⟩ := HPI.out.1 t htm
                  obtain ⟨s, hs⟩ : ∃ s, fP t = s := ⟨_, rfl⟩
                  rw [hs] at hs1 hs2
                  obtain ⟨tv, htv, tv1, tv2, tv3⟩ := tm_fact (s + mm) (m := q) (by omega)
                  have hw64 : (wrap64 (s + wrap64 (y * z))).tmod (q : Int) = tv := by rw [hmm, wrap64_eq (z := mm) (by omega) (by omega), wrap64_eq (z := s + mm) (by omega) (by omega), htv]
                  have HNX : Hid (PI q m a a2 (fun u => if u = t then tv else fP u) i (k + 1)) := Lib.hid (by
                    rw [← htd]
                    refine PI.low HPI.out (by omega) ?_ tv1 tv2
                    rw [htd, hs, hy, hz, hmm]
                    exact tv3)
                  have kp := HRP.out.cell htm
                  have kpf := HRP.out.frozen t
                  simp only [Z.ku] at kp
                  rw [hs] at kp
                  have t0 : 0 ≤ (t : Int) := by omega
                  have t1 : (t : Int) < (m : Int) := by omega
                  clear htd hs hy hz tv3 q1 q2 hA1e hA2e
                  go_wp2
                  refine wp_region_quiet_tail 25 (by kernel_rfl) (by kernel_rfl) ?_
                  simp only [List.take_succ_cons, List.take_zero, List.drop_succ_cons, List.drop_zero]
                  repeat (go_big_quiet_step (fail))
                  refine wpQuiet_nil ?_
                  rintro _ ⟨d2, rfl⟩
                  go_wp2
                  all_goals go_roundw
                  case rel => exact ⟨k + 1, _, by go_num, hkm, World.rowIs.setOther (w := wr.drewN d2) HRS.out hne _, Z.rowIs_set_ku (w := wr.drewN d2) HRP.out t tv, HNX.out, (below_drewN HBE.out d2).setCell (p := ⟨bP, t, none⟩) (show w4.heap.size ≤ bP from hbPg) _⟩
                  case measure => simp only [intOf]; omega
                · have e3 : decide ((i : Int) + (k : Int) < (m : Int)) = false := decide_eq_false (by omega)
                  obtain ⟨t, htd⟩ : ∃ t, i + k - m = t := ⟨_, rfl⟩
                  have htm : t < m := by omega
                  have hti : (i : Int) + (k : Int) - (m : Int) = (t : Int) := by omega
                  obtain ⟨hs1, hs2⟩ := HPI.out.1 t htm
                  obtain ⟨s, hs⟩ : ∃ s, fP t = s := ⟨_, rfl⟩
                  rw [hs] at hs1 hs2
                  obtain ⟨tv, htv, tv1, tv2, tv3⟩ := tm_fact (s - mm) (m := q) (by omega)
                  have hw64 : (wrap64 (s - wrap64 (y * z))).tmod (q : Int) = tv := by rw [hmm, wrap64_eq (z := mm) (by omega) (by omega), wrap64_eq (z := s - mm) (by omega) (by omega), htv]
                  have HNX : Hid (PI q m a a2 (fun u => if u = t then tv else fP u) i (k + 1)) := Lib.hid (by
                    rw [← htd]
                    refine PI.high HPI.out (by omega) (by omega) ?_ tv1 tv2
                    rw [htd, hs, hy, hz, hmm]
                    exact tv3)
                  have kp := HRP.out.cell htm
                  have kpf := HRP.out.frozen t
                  simp only [Z.ku] at kp
                  rw [hs] at kp
                  have t0 : 0 ≤ (t : Int) := by omega
                  have t1 : (t : Int) < (m : Int) := by omega
                  clear htd hs hy hz tv3 q1 q2 hA1e hA2e
                  go_wp2
                  refine wp_region_quiet_tail 31 (by kernel_rfl) (by kernel_rfl) ?_
                  simp only [List.take_succ_cons, List.take_zero, List.drop_succ_cons, List.drop_zero]
                  repeat (go_big_quiet_step (fail))
                  refine wpQuiet_nil ?_
                  rintro _ ⟨d2, rfl⟩
                  go_wp2
                  all_goals go_roundw
                  case rel => exact ⟨k + 1, _, by go_num, hkm, World.rowIs.setOther (w := wr.drewN d2) HRS.out hne _, Z.rowIs_set_ku (w := wr.drewN d2) HRP.out t tv, HNX.out, (below_drewN HBE.out d2).setCell (p := ⟨bP, t, none⟩) (show w4.heap.size ≤ bP from hbPg) _⟩
                  case measure => simp only [intOf]; omega
              · obtain rfl : m = k := by omega
                have e2 : decide ((m : Int) < (m : Int)) = false := decide_eq_false (by omega)
                clear c4 c5
                go_wp2
                go_roundw
                case rel => exact ⟨i + 1, fP, by go_num, hin, HRS.out, HRP.out, HPI.out.row, HBE.out⟩
                case measure => simp only [intOf]; omega
          · obtain rfl : m = i := by omega
            have e1 : decide ((m : Int) < (m : Int)) = false := decide_eq_false (by omega)
            clear c4 c5
            rename World => wo
            go_wp2
            go_loopw [15] (fun I wr => ∃ i : Nat, I = .int .i64 (i : Int) ∧ i ≤ m ∧ wr.rowIs bS 2 m (Z.ku .i64 fun t => if t < m then bal q (a t + a2 t) else 0) ∧ wr.rowIs bP 2 m (Z.ku .i64 fun t => if t < i then bal q (fP t) else fP t) ∧ Below w4.heap.size w4 wr) (fun I _ => m - (intOf I).toNat)
            case atStart => exact ⟨0, rfl, Nat.zero_le _, HRS.out, HRP.out.congr fun _ _ => rfl, HBE.out⟩
            case round =>
              clear HRS HRP HBE hzr HCXr c0
              obtain ⟨i, rfl, him2, hrS, hrP, hbl⟩ := hrel
              have HRS := Lib.hid hrS
              have HRP := Lib.hid hrP
              have HBE := Lib.hid hbl
              have hzr := hbl.size
              have HCXr := Lib.hid (HCX4.out.below hbl HCX4.out.lt)
              have c0 := HCXr.out.c0
              clear hrS hrP hbl
              by_cases hin : i < m
              · have e2 : decide ((i : Int) < (m : Int)) = true := decide_eq_true (by omega)
                obtain ⟨s, hs⟩ : ∃ s, fP i = s := ⟨_, rfl⟩
                have kp := HRP.out.cell hin
                have kpf := HRP.out.frozen i
                simp only [Z.ku] at kp
                rw [if_neg (by omega), hs] at kp
                have HBAL := Lib.hid (rbal8_any s q wr hq3 hq31 hqo)
                obtain ⟨vb, hvb⟩ : ∃ vb, bal q s = vb := ⟨_, rfl⟩
                rw [hvb] at HBAL
                have HVB : Hid (bal q (fP i) = vb) := Lib.hid (by rw [hs, hvb])
                have i0 : 0 ≤ (i : Int) := by omega
                have i1 : (i : Int) < (m : Int) := by omega
                clear hs hvb
                go_wp2_with (go_at_call 22; refine HBAL.out.mono ?_; rintro e w' ⟨rfl, hw⟩; subst hw)
                go_roundw
                case rel =>
                  refine ⟨i + 1, by go_num, hin, HRS.out.setOther hne _, (Z.rowIs_set_ku HRP.out i vb).congr fun t _ => ?_, HBE.out.setCell (p := ⟨bP, i, none⟩) (show w4.heap.size ≤ bP from hbPg) _⟩
                  simp only [Z.ku]
                  congr 1
                  by_cases hti : t = i
                  · rw [if_pos hti, if_pos (by omega), hti, HVB.out]
                  · rw [if_neg hti]
                    by_cases h2 : t < i
                    · rw [if_pos h2, if_pos (by omega)]
                    · rw [if_neg h2, if_neg (by omega)]
                case measure => simp only [intOf]; omega
              · obtain rfl : m = i := by omega
                have e2 : decide ((m : Int) < (m : Int)) = false := decide_eq_false (by omega)
                have hb1r := hb14.trans (HBE.out.mono hz4)
                have hz1r := hb1r.size
                have HSr := Lib.hid (HS4.out.below HBE.out (Nat.le_refl _))
                have HQ1r := Lib.hid (And.intro (HQ3.out.below HBE.out hz34) (HQ4.out.below HBE.out (Nat.le_refl _)))
                have hsqS : Z.Sq .i64 wr 0 wr.heap.size (some ⟨bS, 0, none⟩) m (fun t => if t < m then bal q (a t + a2 t) else 0) := Z.Sq.of_row HRS.out (Nat.le_refl _) (Nat.zero_le _) HRS.out.lt (fun t ht => if_neg (by omega)) fun _ _ => rfl
                have hsqP : Z.Sq .i64 wr 0 wr.heap.size (some ⟨bP, 0, none⟩) m (fun t => if t < m then (if t < m then bal q (fP t) else fP t) else 0) := Z.Sq.of_row HRP.out (Nat.le_refl _) (Nat.zero_le _) HRP.out.lt (fun t ht => if_neg (by omega)) fun t ht => by rw [if_pos ht, if_pos ht]
                have HSQP := Lib.hid hsqP
                have HOKF : Hid (∀ F : Nat → Int, Bl q m F → VOk m p R m F (E : Int)) := Lib.hid fun F hF => ⟨by omega, by omega, rfl, by rw [Int.toNat_natCast, HQQ.out]; exact hF⟩
                have HDS := Lib.hid ((decode_any _ b m p R x m m 0 wr.heap.size (E : Int) _ _ wr HG.out HSr.out hsqS hm (Nat.le_refl _)).mono fun e w' h => h.ok (HOKF.out _ fun t ht => by rw [if_pos ht]; exact bal_bound hqo _))
                rw [Int.toNat_natCast, HQQ.out] at HDS
                have c3 := HCXr.out.c3
                clear hsqS hsqP
                go_wp2_with fail
                refine HDS.out.mono ?_
                rintro e w6 ⟨hb6, A6, c6', rfl, hsq6⟩
                have hb16 := hb1r.trans (hb6.mono hz1r)
                have hz6 := hb16.size
                have hzr6 := hb6.size
                have HCX6 := Lib.hid (HCXr.out.below hb6 HCXr.out.lt)
                have HS6 := Lib.hid (HSr.out.below hb6 (Nat.le_refl _))
                have HQ6 := Lib.hid (And.intro (HQ1r.out.1.below hb6 (by omega)) (And.intro (HQ1r.out.2.below hb6 (by omega)) hsq6))
                have HDP := Lib.hid ((decode_any _ b m p R x m m 0 wr.heap.size (E : Int) _ _ w6 HG.out HS6.out (HSQP.out.below hb6 (Nat.le_refl _)) hm hb6.size).mono fun e w' h => h.ok (HOKF.out _ fun t ht => by rw [if_pos ht, if_pos ht]; exact bal_bound hqo _))
                rw [Int.toNat_natCast, HQQ.out] at HDP
                clear hsq6 c3
                have c3 := HCX6.out.c3
                go_wp2_with fail
                refine HDP.out.mono ?_
                rintro e w7 ⟨hb7, A7, c7', rfl, hsq7⟩
                have hb17 := hb16.trans (hb7.mono hz6)
                have hz7 := hb17.size
                have HCX7 := Lib.hid (HCX6.out.below hb7 HCX6.out.lt)
                have HQ7 := Lib.hid (And.intro (HQ6.out.1.below hb7 (by omega)) (And.intro (HQ6.out.2.1.below hb7 (by omega)) (And.intro (HQ6.out.2.2.below hb7 (Nat.le_refl _)) hsq7)))
                have HFAC : Hid (∀ j, j < m → ∀ t : Int, Cg q t (decF q m x a j * decF q m x a2 j) → decF q m x (fun t => if t < m then bal q (a t + a2 t) else 0) j = bal q (decF q m x a j + decF q m x a2 j) ∧ decF q m x (fun t => if t < m then (if t < m then bal q (fP t) else fP t) else 0) j = bal q t) := Lib.hid fun j hj t ht => by
                  refine ⟨dec_add hj, ?_⟩
                  have h1 := dec_mul (p := p) (e := E) (x := x) (a := a) (b := a2) (f := fP) (t := t) HG.out.dim HZR.out hj (by rw [HQQ.out]; exact HPI.out) (by rw [HQQ.out]; exact ht)
                  rw [HQQ.out] at h1
                  rw [← h1]
                  show (if j < m then bal q (decZ m x _ j) else 0) = (if j < m then bal q (decZ m x _ j) else 0)
                  rw [if_pos hj, if_pos hj]
                  refine bal_congr (decZ_cg fun t ht => Cg.of_eq ?_)
                  rw [if_pos ht]
                have HBD : Hid (∀ j, j < m → (-((q / 2 : Nat) : Int) ≤ decF q m x a j ∧ decF q m x a j ≤ ((q / 2 : Nat) : Int)) ∧ (-((q / 2 : Nat) : Int) ≤ decF q m x a2 j ∧ decF q m x a2 j ≤ ((q / 2 : Nat) : Int))) := Lib.hid fun j hj => ⟨decF_bl hqo j hj, decF_bl hqo j hj⟩
                have d8 : ((m : Int) != (m : Int)) = false := by simp
                clear hsq7 c3 c0 HDS HDP HSQP HRS HRP HBE HQ6 HQ1r HPI
                have c0 := HCX7.out.c0
                go_wp2_with fail
                go_loopw [20] (fun I wr2 => ∃ i : Nat, I = .int .i64 (i : Int) ∧ i ≤ m ∧ ∃ d, wr2 = w7.drewN d) (fun I _ => m - (intOf I).toNat)
                case atStart => exact ⟨0, rfl, Nat.zero_le _, 0, rfl⟩
                case round =>
                  obtain ⟨j, rfl, hjm, d, rfl⟩ := hrel
                  by_cases hlt : j < m
                  · have e3 : decide ((j : Int) < (m : Int)) = true := decide_eq_true (by omega)
                    obtain ⟨g1, o1, h1e, _, _, q1⟩ := HQ7.out.1.2 (by omega)
                    obtain ⟨g2, o2, h2e, _, _, q2⟩ := HQ7.out.2.1.2 (by omega)
                    obtain ⟨g3, o3, h3e, _, _, q3⟩ := HQ7.out.2.2.1.2 (by omega)
                    obtain ⟨g4, o4, h4e, _, _, q4⟩ := HQ7.out.2.2.2.2 (by omega)
                    have k1 := q1 j hlt
                    have k2 := q2 j hlt
                    have k3 := q3 j hlt
                    have k4 := q4 j hlt
                    obtain ⟨hbd1, hbd2⟩ := HBD.out j hlt
                    obtain ⟨tv, htv, tv1, tv2, tv3⟩ := tm_fact (decF q m x a j * decF q m x a2 j) (m := q) (by omega)
                    obtain ⟨fa1, fa2⟩ := HFAC.out j hlt tv tv3
                    rw [fa1] at k3
                    rw [fa2] at k4
                    obtain ⟨ya, hya⟩ : ∃ y, decF q m x a j = y := ⟨_, rfl⟩
                    obtain ⟨yb, hyb⟩ : ∃ y, decF q m x a2 j = y := ⟨_, rfl⟩
                    rw [hya] at k1 k3 hbd1 htv
                    rw [hyb] at k2 k3 hbd2 htv
                    obtain ⟨mm, hmm⟩ : ∃ mm, ya * yb = mm := ⟨_, rfl⟩
                    have hmb := bal_mul2 hq31 hbd1 hbd2
                    rw [hmm] at hmb htv
                    obtain ⟨v1, hv1⟩ : ∃ v1, bal q (ya + yb) = v1 := ⟨_, rfl⟩
                    obtain ⟨v2, hv2⟩ : ∃ v2, bal q tv = v2 := ⟨_, rfl⟩
                    rw [hv1] at k3
                    rw [hv2] at k4
                    have HBAL := Lib.hid (fun (z : Int) d => rbal8_any z q (w7.drewN d) hq3 hq31 hqo)
                    rw [h1e, h2e, h3e, h4e]
                    have hww : wrap64 (ya + yb) = ya + yb := wrap64_eq (by omega) (by omega)
                    have hwm : (wrap64 (ya * yb)).tmod (q : Int) = tv := by rw [hmm, wrap64_eq (z := mm) (by omega) (by omega), htv]
                    have e5 : (v1 != v1) = false := by simp
                    have e6 : (v2 != v2) = false := by simp
                    have i0 : 0 ≤ (j : Int) := by omega
                    have i1 : (j : Int) < (m : Int) := by omega
                    have hq0 : ¬ q = 0 := by omega
                    clear q1 q2 q3 q4 h1e h2e h3e h4e hya hyb fa1 fa2 tv3
                    go_wp2
                    go_quiet ((exact (HBAL.out _ _).mono fun e w' hh => ⟨hh.1, _, hh.2.symm⟩))
                    go_wp2
                    go_roundw
                    case rel => exact ⟨j + 1, by go_num, hlt, _, rfl⟩
                    case measure => simp only [intOf]; omega
                  · obtain rfl : m = j := by omega
                    have e3 : decide ((m : Int) < (m : Int)) = false := decide_eq_false (by omega)
                    have hb17d := below_drewN hb17 d
                    have hz7d := hb17d.size
                    go_wp2_with fail
                    (with_reducible refine (awake8_any (w7.drewN d)).mono ?_)
                    rintro e w8 ⟨rfl, hbx⟩
                    go_wp2_with fail
                    go_ret
                    exact ⟨rfl, hb17d.trans (hbx.mono hz7d)⟩
end Go.Proofs.Ytcnkddoipmaddaa
