/- The walk of the law TransformValues: it returns true. -/
import Derived.Test.YtbajapjaejpcjaaUni6
import Derived.Test.YtbajapjaejpcjaaSqArg
import Derived.Test.YtbajapjaejpcjaaVal6
namespace Go.Proofs.Ytbajapjaejpcjaa
open Go.RowKit
set_option linter.unusedVariables false

set_option maxRecDepth 100000 in
set_option maxHeartbeats 4000000 in
theorem transformValues_any (n : Int) (q m c : Nat) (A : Option Addr) (a : Nat → Nat) (v : Value) (w : World) (hq : q ≤ 4294967295) (ha : Sq .u32 w 0 w.heap.size A m a) (hm : m ≤ 9223372036854775807) (hab : ∀ j, a j ≤ 4294967295) :
    Calls Try.prog 9 #[.agg #[.int .i64 n, .int .u32 q, .slice A m c, v]] w (RetV w (.bool true)) := by
  have hcx := Cx.new w n q (.slice A m c) v 29
  have hb1 : Below w.heap.size w (w.alloc (.cells #[.int .i64 n, .int .u32 q, .slice A m c, v] 29)) := (Below.refl _ w).alloc (Nat.le_refl _) _
  obtain ⟨w1, hw1⟩ : ∃ w1, w1 = w.alloc (.cells #[.int .i64 n, .int .u32 q, .slice A m c, v] 29) := ⟨_, rfl⟩
  rw [← hw1] at hcx hb1
  have HW1 := Lib.hid hw1
  have HCX := Lib.hid hcx
  have HA := Lib.hid ha
  have HAB := Lib.hid hab
  have c0 := hcx.c0
  have c1 := hcx.c1
  have hz1 := hb1.size
  clear hw1 hcx ha hab
  go_enter Try.func9, Try.ntmps9
  repeat
    fail_if_success rw [← HW1.out]
    go_step
  rw [← HW1.out]
  go_wp2_with fail
  (with_reducible refine (new_any n q w1 hq).mono ?_)
  rintro e w2 ⟨hb2, hh⟩
  have hb12 := hb1.trans (hb2.mono hz1)
  have hz2 := hb12.size
  have HCX2 := Lib.hid (HCX.out.below hb2 HCX.out.lt)
  clear c0 c1
  rcases hh with ⟨hno, rfl⟩ | ⟨hok, p, rfl, ht⟩
  · clear hno
    go_wp2_with fail
    (with_reducible refine (awake_any w2).mono ?_)
    rintro e w3 ⟨rfl, hb3⟩
    go_wp2_with fail
    go_ret
    exact ⟨rfl, hb12.trans (hb3.mono hz2)⟩
  obtain ⟨k, rfl, _⟩ : ∃ k : Nat, n = (k : Int) ∧ True := by
    have := hok.1
    unfold dim6 at this
    exact ⟨n.toNat, by omega, trivial⟩
  rw [Int.toNat_natCast] at ht
  obtain ⟨b, ψ, s, rfl, hbg, hgood, htb, hle⟩ := new_open hok ht
  have HG := Lib.hid hgood
  have HT2 := Lib.hid htb
  have hk32 := hgood.nb
  have hq31 := hgood.q31
  have hq2 := hgood.rt.pr.1
  have hcl := HCX2.out.lt
  have hbt := htb.lt
  have c2 := HCX2.out.c2
  have HF := Lib.hid (forward_any b k q ψ s m c 0 w.heap.size A a w2 hgood htb (HA.out.below hb12 (Nat.le_refl _)) hm HAB.out hz2)
  clear hok ht hgood htb hle
  go_wp2_with fail
  refine HF.out.mono ?_
  rintro e w3 ⟨hb3, hh⟩
  have hb13 := hb12.trans (hb3.mono hz2)
  have hz3 := hb3.size
  have HCX3 := Lib.hid (HCX2.out.below hb3 HCX2.out.lt)
  have HT3 := Lib.hid (HT2.out.below hb3 HT2.out.lt)
  clear c2
  rcases hh with ⟨hno, rfl⟩ | ⟨hok, b3, rfl, hbg3, hr3⟩
  · clear hno
    go_wp2_with fail
    (with_reducible refine (awake_any w3).mono ?_)
    rintro e w5 ⟨rfl, hb5⟩
    go_wp2_with fail
    go_ret
    exact ⟨rfl, hb13.trans (hb5.mono hb13.size)⟩
  have HR3 := Lib.hid hr3
  have HOK := Lib.hid hok
  have hmk := HOK.out.1
  clear hr3 hok
  subst hmk
  have c0 := HCX3.out.c0
  have c1 := HCX3.out.c1
  have c2 := HCX3.out.c2
  have q1 : ((q : Int) == 0) = false := by simp; omega
  have d1 : decide ((m : Int) < 2) = false := decide_eq_false (by omega)
  have d2 : decide ((m : Int) > 32) = false := decide_eq_false (by omega)
  have d3 : decide (32 < m) = false := decide_eq_false (by omega)
  have d4 : decide (m < 2) = false := decide_eq_false (by omega)
  have f1 : ((m : Int) != (m : Int)) = false := by simp
  clear HF HT2 HCX2
  go_wp2_with (at_make; refine wpl_make rfl _ _ _ rfl e32 .i64 .i64 _ _ m rfl rfl rfl rfl (by omega) (by unfold maxLen; omega) ?_; intro w4 hr4 hb4 hs4; have k4 := hr4.cell (show 1 < m by omega); have f4 := hr4.frozen 1; simp only [ku] at k4; have HR4 := Lib.hid hr4; clear hr4)
  have hr5 := rowIs_set_ku HR4.out 1 1
  have hq5 : Sq .u32 (w4.setCell ⟨w3.heap.size, 1, none⟩ (.int .u32 1)) 0 _ (some ⟨w3.heap.size, 0, none⟩) m oneAt := Sq.of_row hr5 (Nat.le_refl _) (Nat.zero_le _) hr5.lt (fun j hj => if_neg (by omega)) (fun j hj => rfl)
  have hb35 := (hb4.setCell (p := ⟨w3.heap.size, 1, none⟩) (Nat.le_refl _) (.int .u32 1))
  have hb15 := hb13.trans (hb35.mono hb13.size)
  have hz5 : (w4.setCell ⟨w3.heap.size, 1, none⟩ (.int .u32 1)).heap.size = w4.heap.size := by simp
  have hbt3 := HT3.out.lt
  have hcx3 := HCX3.out.lt
  have hF5 := (forward_any b m q ψ s m m 0 _ _ oneAt _ HG.out (HT3.out.below hb35 hbt3) hq5 hm (fun j => by unfold oneAt; split <;> omega) (Nat.le_refl _))
  have HF5 := Lib.hid hF5
  have HCX5 := Lib.hid (HCX3.out.below hb35 hcx3)
  have HT5 := Lib.hid (HT3.out.below hb35 hbt3)
  have HR5 := Lib.hid (rowIs_below HR3.out hb35 HR3.out.lt)
  have HB15 := Lib.hid hb15
  clear hr5 hq5 hF5 hb35 hb15 c0 c1 c2 k4 f4
  refine HF5.out.mono ?_
  rintro e w6 ⟨hb6, hh⟩
  rcases hh with ⟨hno, _⟩ | ⟨_, b6, rfl, hbg6, hr6⟩
  · exact absurd ⟨rfl, fun j _ => by show (if j = 1 then 1 else 0) < q; split <;> omega⟩ hno
  have hz6 := hb6.size
  have hb16 := HB15.out.trans (hb6.mono HB15.out.size)
  have HCX6 := Lib.hid (HCX5.out.below hb6 (by omega))
  have HT6 := Lib.hid (HT5.out.below hb6 (by omega))
  have HA3 := Lib.hid (rowIs_below HR5.out hb6 HR5.out.lt)
  have hq0' : 0 < q := by omega
  have HP6 := Lib.hid (hr6.congr (g := ku .u32 (plc q ψ)) fun j hj => by simp only [ku]; rw [fwd_one hq0' hk32.1 hj])
  have k0 := HP6.out.cell (show 0 < m by omega)
  simp only [ku] at k0
  rw [show plc q ψ 0 = ψ by unfold plc; rw [Nat.mul_zero, Nat.zero_add, Nat.pow_one, Nat.mod_eq_of_lt HG.out.psi]] at k0
  have hR := fun d => troot_yes b m q s (pwF q m ψ) (w6.drewN d) ⟨HT6.out.cN, HT6.out.cQ, HT6.out.cP, HT6.out.cS, HT6.out.lt⟩ (by omega)
  rw [show pwF q m ψ 1 = ψ by
    unfold pwF
    rw [if_pos (by omega), Nat.pow_one, Nat.mod_eq_of_lt HG.out.psi]] at hR
  have HRT := Lib.hid hR
  have c0 := HCX6.out.c0
  have f2 : ((ψ : Int) != (ψ : Int)) = false := by simp
  clear hR hr6 HF5 HR4 HT5 HCX5 HR5 HR3 HT3 HCX3
  go_wp2_with fail
  go_quiet ((exact (HRT.out _).mono fun e w' hh => ⟨hh.1, _, hh.2.symm⟩))
  have hb0 := below_drewN (Below.refl w6.heap.size w6) nq
  generalize w6.drewN nq = w7 at hb0 ⊢
  clear c0 k0
  have c0 := (HCX6.out.below hb0 HCX6.out.lt).c0
  go_wp2_with fail
  go_loopw [10] (fun J wr => ∃ j : Nat, j ≤ m ∧ J = .int .i64 (j : Int) ∧ Below w6.heap.size w6 wr) (fun J _ => m - (intOf J).toNat)
  case atStart => exact ⟨0, Nat.zero_le _, rfl, hb0⟩
  case round =>
    clear c0 hb0
    obtain ⟨j, hjm, rfl, hbj⟩ := hrel
    have c0 := (HCX6.out.below hbj HCX6.out.lt).c0
    by_cases hjl : j < m
    · have e1 : decide ((j : Int) < (m : Int)) = true := decide_eq_true (by omega)
      go_wp2_with fail
      go_loopw [11, 12, 13] (fun PW SM I wq => ∃ i pw sm : Nat, i ≤ m ∧ I = .int .i64 (i : Int) ∧ PW = .int .u64 (pw : Int) ∧ SM = .int .u64 (sm : Int) ∧ pw < q ∧ sm < q ∧ plc q ψ j ^ i % q = pw ∧ valN (plc q ψ j) a i % q = sm ∧ Below w6.heap.size w6 wq) (fun _ _ I _ => m - (intOf I).toNat)
      case atStart => exact ⟨0, 1, 0, Nat.zero_le _, rfl, rfl, rfl, by omega, by omega, by rw [Nat.pow_zero, Nat.mod_eq_of_lt (by omega)], Nat.zero_mod q, hbj⟩
      case round =>
        clear c0
        obtain ⟨i, pw, sm, him, rfl, rfl, rfl, hpq, hsq, hpw, hsm, hbi⟩ := hrel
        have hcx := HCX6.out.below hbi HCX6.out.lt
        have c0 := hcx.c0
        have c1 := hcx.c1
        have c2 := hcx.c2
        have kp := (rowIs_below HP6.out hbi HP6.out.lt).cell hjl
        simp only [ku] at kp
        have hPq := plc_lt (ψ := ψ) (j := j) hq0'
        have HPW := Lib.hid hpw
        have HSM := Lib.hid hsm
        clear hpw hsm hcx
        by_cases hil : i < m
        · have e2 : decide ((i : Int) < (m : Int)) = true := decide_eq_true (by omega)
          have hb1i := hb16.trans (hbi.mono hb16.size)
          obtain ⟨g, off, hAe, _, hg, hcell⟩ := HA.out.2 (by omega)
          have k1 := (hb1i.cell (p := ⟨g, off + i, none⟩) (by show g < _; omega)).trans (hcell i hil)
          have hxq := HOK.out.2 i hil
          obtain ⟨x, hx⟩ : ∃ x, a i = x := ⟨_, rfl⟩
          rw [hx] at k1 hxq
          rw [hAe] at c2
          obtain ⟨P, hP⟩ : ∃ P, plc q ψ j = P := ⟨_, rfl⟩
          rw [hP] at kp hPq
          obtain ⟨mm, hmm⟩ : ∃ mm, x * pw = mm := ⟨_, rfl⟩
          have hmi : (x : Int) * (pw : Int) = (mm : Int) := by rw [← hmm]; simp
          have hmb : mm ≤ 4611686009837453316 := by rw [← hmm]; exact mul_lt_of hxq hpq hq31
          obtain ⟨m2, hm2⟩ : ∃ m2, pw * P = m2 := ⟨_, rfl⟩
          have hm2i : (pw : Int) * (P : Int) = (m2 : Int) := by rw [← hm2]; simp
          have hm2b : m2 ≤ 4611686009837453316 := by rw [← hm2]; exact mul_lt_of hpq hPq hq31
          obtain ⟨s2, hs2⟩ : ∃ s2, (sm + mm) % q = s2 := ⟨_, rfl⟩
          have hs2i : ((sm : Int) + (mm : Int)) % (q : Int) = (s2 : Int) := by rw [← hs2]; simp
          have hs2t : ((sm : Int) + (mm : Int)).tmod (q : Int) = (s2 : Int) := by rw [Int.tmod_eq_emod_of_nonneg (by omega), hs2i]
          have hs2q : s2 < q := by rw [← hs2]; exact Nat.mod_lt _ hq0'
          obtain ⟨p2, hp2⟩ : ∃ p2, m2 % q = p2 := ⟨_, rfl⟩
          have hp2i : (m2 : Int) % (q : Int) = (p2 : Int) := by rw [← hp2]; simp
          have hp2t : (m2 : Int).tmod (q : Int) = (p2 : Int) := by rw [Int.tmod_eq_emod_of_nonneg (by omega), hp2i]
          have hp2q : p2 < q := by rw [← hp2]; exact Nat.mod_lt _ hq0'
          have hnx : plc q ψ j ^ (i + 1) % q = p2 ∧ valN (plc q ψ j) a (i + 1) % q = s2 := ⟨by rw [pw_next HPW.out, hP, hm2, hp2], by rw [valN_next HSM.out HPW.out hx, hmm, hs2]⟩
          have HNX := Lib.hid hnx
          have hq0 : ¬ q = 0 := by omega
          clear hcell hx hAe hP hmm hm2 hs2 hp2 hnx
          go_wp2
          go_quiet (fail)
          have hb9 := below_drewN hbi nq
          have c0' : (wr.drewN nq).cell? ⟨w.heap.size, 0, none⟩ = _ := c0
          have c1' : (wr.drewN nq).cell? ⟨w.heap.size, 1, none⟩ = _ := c1
          have kp' : (wr.drewN nq).cell? ⟨b6, j, none⟩ = _ := kp
          generalize wr.drewN nq = w9 at hb9 c0' c1' kp' ⊢
          clear c0 c1 c2 kp k1
          go_wp2
          go_quiet (fail)
          go_wp2
          go_roundw
          case rel => exact ⟨i + 1, p2, s2, hil, by go_num, rfl, rfl, hp2q, hs2q, HNX.out.1, HNX.out.2, below_drewN hb9 _⟩
          case measure => simp only [intOf]; omega
        · obtain rfl : m = i := by omega
          have e2 : decide ((m : Int) < (m : Int)) = false := decide_eq_false (by omega)
          have kf := (rowIs_below HA3.out hbi HA3.out.lt).cell hjl
          simp only [ku] at kf
          rw [← plc_val hq0' hjl, HSM.out] at kf
          have hpe : pw = q - 1 := by rw [← HPW.out]; exact plc_neg HG.out.rt
          have f3 : ((pw : Int) != (q : Int) - 1) = false := by simp; omega
          have f4 : ((sm : Int) != (sm : Int)) = false := by simp
          clear hpe c2 kp
          go_wp2_with fail
          go_loopw [14] (fun I wq => ∃ i : Nat, i ≤ j ∧ I = .int .i64 (i : Int) ∧ Below w6.heap.size w6 wq) (fun I _ => j - (intOf I).toNat)
          case atStart => exact ⟨0, Nat.zero_le _, rfl, hbi⟩
          case round =>
            clear kf c0 c1
            obtain ⟨i, hij, rfl, hbk⟩ := hrel
            by_cases hilj : i < j
            · have e3 : decide ((i : Int) < (j : Int)) = true := decide_eq_true (by omega)
              have him : i < m := by omega
              have kp := (rowIs_below HP6.out hbk HP6.out.lt).cell hjl
              have kq := (rowIs_below HP6.out hbk HP6.out.lt).cell him
              have hne := plc_ne HG.out.rt hilj hjl
              simp only [ku] at kp kq
              generalize plc q ψ j = y at kp hne
              generalize plc q ψ i = x at kq hne
              have f5 : ((x : Int) == (y : Int)) = false := by simp; omega
              clear hne
              go_wp2
              go_quiet (fail)
              go_wp2
              go_roundw
              case rel => exact ⟨i + 1, hilj, by go_num, below_drewN hbk _⟩
              case measure => simp only [intOf]; omega
            · obtain rfl : j = i := by omega
              have e3 : decide ((j : Int) < (j : Int)) = false := decide_eq_false (by omega)
              go_wp2_with fail
              go_roundw
              case rel => exact ⟨j + 1, hjl, by go_num, hbk⟩
              case measure => simp only [intOf]; omega
    · obtain rfl : m = j := by omega
      have e1 : decide ((m : Int) < (m : Int)) = false := decide_eq_false (by omega)
      have hb1j := hb16.trans (hbj.mono hb16.size)
      go_wp2_with fail
      (with_reducible refine (awake_any wr).mono ?_)
      rintro e w10 ⟨rfl, hb10⟩
      go_wp2_with fail
      go_ret
      exact ⟨rfl, hb1j.trans (hb10.mono hb1j.size)⟩
end Go.Proofs.Ytbajapjaejpcjaa
