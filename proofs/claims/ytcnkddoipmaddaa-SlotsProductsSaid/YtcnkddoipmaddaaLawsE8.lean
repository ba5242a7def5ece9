/- The walk of the law SlotsTurns: it returns true. -/
import Derived.Test.YtcnkddoipmaddaaLawsC8
import Derived.Test.YtcnkddoipmaddaaAut8
import Derived.Deep.RegionHeld3
namespace Go.Proofs.Ytcnkddoipmaddaa
open Go.RowKit
set_option linter.unusedVariables false

/-- Decode of a list that is valid -/
def RetOk8 (w : World) (n : Nat) (F : Nat → Int) (e : Ending) (w' : World) : Prop := Below w.heap.size w w' ∧ ∃ A c, e = .returned (.tuple #[.slice A n c, .int .i64 0]) ∧ Z.Sq .i64 w' w.heap.size w'.heap.size A n F
theorem RetDc.ok {w w' : World} {C : Prop} {n : Nat} {F : Nat → Int} {e : Ending} (h : RetDc w C n F e w') (hC : C) : RetOk8 w n F e w' := by
  rcases h with ⟨hb, ⟨h, _⟩ | ⟨_, A, c, rfl, hr⟩⟩
  · exact absurd hC h
  · exact ⟨hb, _, _, rfl, hr⟩

theorem and_dim {n : Nat} (h : dim8 n) : bits BinOp.and IntKind.i64 (n : Int) ((n : Int) - 1) = 0 := by
  rcases h with rfl | rfl | rfl | rfl <;> decide +kernel

set_option maxRecDepth 100000 in
set_option maxHeartbeats 4000000 in
theorem slotsTurns_any (n : Int) (p : Nat) (r ee : Int) (m c : Nat) (A : Option Addr) (a : Nat → Int) (v : Value) (t : Int) (sw : Bool) (w : World) (hp : p ≤ 4294967295) (hr : r ≤ 9223372036854775807) (ha : Z.Sq .i64 w 0 w.heap.size A m a) (hm : m ≤ 9223372036854775807) :
    Calls Try.prog 9 #[.agg #[.int .i64 n, .int .u32 p, .int .i64 r, .int .i64 ee, .slice A m c, v], .int .i64 t, .bool sw] w (RetV w (.bool true)) := by
  have hcx := Cx8.new w n p r ee (.slice A m c) v 25
  have hb1 : Below w.heap.size w (w.alloc (.cells #[.int .i64 n, .int .u32 p, .int .i64 r, .int .i64 ee, .slice A m c, v] 25)) := (Below.refl _ w).alloc (Nat.le_refl _) _
  obtain ⟨w1, hw1⟩ : ∃ w1, w1 = w.alloc (.cells #[.int .i64 n, .int .u32 p, .int .i64 r, .int .i64 ee, .slice A m c, v] 25) := ⟨_, rfl⟩
  rw [← hw1] at hcx hb1
  have HW1 := Lib.hid hw1
  have HCX := Lib.hid hcx
  have c0 := hcx.c0
  have c1 := hcx.c1
  have c2 := hcx.c2
  have hz1 := hb1.size
  clear hw1 hcx
  have HA := Lib.hid ha
  clear ha
  go_enter Try.func9, Try.ntmps9
  repeat
    fail_if_success rw [← HW1.out]
    go_step
  rw [← HW1.out]
  go_wp2_with fail
  (with_reducible refine (new8_any n p r w1 hp hr).mono ?_)
  rintro e w2 ⟨hb2, hh⟩
  have hb12 := hb1.trans (hb2.mono hz1)
  have hz2 := hb12.size
  have HCX2 := Lib.hid (HCX.out.below hb2 HCX.out.lt)
  clear c0 c1 c2
  rcases hh with ⟨hno, rfl⟩ | ⟨hok, b, x, rfl, hx, hsl⟩
  · clear hno
    go_wp2_with fail
    (with_reducible refine (awake8_any w2).mono ?_)
    rintro e w3 ⟨rfl, hb3⟩
    go_wp2_with fail
    go_ret
    exact ⟨rfl, hb12.trans (hb3.mono hz2)⟩
  obtain ⟨kk, R, rfl, rfl⟩ := new8_open hok
  rw [Int.toNat_natCast, Int.toNat_natCast] at hx hsl
  have HG := Lib.hid (g8_of hok hx)
  have HS2 := Lib.hid hsl
  obtain ⟨hn4, hn32⟩ := HG.out.nb
  clear hok hx hsl
  have c3 := HCX2.out.c3
  have c4 := HCX2.out.c4
  have HD := Lib.hid (decode_any _ b kk p R x m c 0 w.heap.size ee A a w2 HG.out HS2.out (HA.out.below hb12 (Nat.le_refl _)) hm hz2)
  go_wp2_with fail
  refine HD.out.mono ?_
  rintro e w3 ⟨hb3, hh⟩
  have hb13 := hb12.trans (hb3.mono hz2)
  have hz3 := hb13.size
  have HCX3 := Lib.hid (HCX2.out.below hb3 HCX2.out.lt)
  have HS3 := Lib.hid (HS2.out.below hb3 (Nat.le_refl _))
  clear c3 c4
  rcases hh with ⟨hno, rfl⟩ | ⟨hok, A3, c3', rfl, hsq3⟩
  · clear hno
    go_wp2_with fail
    (with_reducible refine (awake8_any w3).mono ?_)
    rintro e w4 ⟨rfl, hbx⟩
    go_wp2_with fail
    go_ret
    exact ⟨rfl, hb13.trans (hbx.mono hz3)⟩
  obtain ⟨hE1, hE2, hmk, hBl⟩ := hok
  subst hmk
  obtain ⟨E, rfl⟩ : ∃ E : Nat, ee = (E : Int) := ⟨ee.toNat, by omega⟩
  rw [Int.toNat_natCast] at hsq3 hBl
  have hER : E ≤ R := by omega
  have hE1' : 1 ≤ E := by omega
  obtain ⟨hq3, hq31, hqo⟩ := HG.out.pe hE1' hER
  have HQ3 := Lib.hid hsq3
  obtain ⟨k, hk⟩ : ∃ k, powN m t sw = k := ⟨_, rfl⟩
  obtain ⟨ko, k1, k2⟩ := pow_mv (t := t) (s := sw) HG.out.dim
  rw [hk] at ko k1 k2
  have HP := Lib.hid (power8_any _ b m p R x t sw w3 HS3.out hn4 hn32)
  rw [hk] at HP
  have HK := Lib.hid hk
  have HKO := Lib.hid ko
  have HZR := Lib.hid (HG.out.zr.down hE1' hER)
  have HBL := Lib.hid hBl
  clear hsq3 hBl hk hE1 hE2
  go_wp2_with fail
  refine HP.out.mono ?_
  rintro e w4 ⟨rfl, d4, rfl⟩
  have hb34 := below_drewN (Below.refl w3.heap.size w3) d4
  have hb14 := below_drewN hb13 d4
  have HCX4 := Lib.hid (HCX3.out.below hb34 HCX3.out.lt)
  have HS4 := Lib.hid (HS3.out.below hb34 (Nat.le_refl _))
  have HQ4 := Lib.hid (HQ3.out.below hb34 (Nat.le_refl _))
  have hz34 : w3.heap.size ≤ (w3.drewN d4).heap.size := Nat.le_refl _
  generalize w3.drewN d4 = w4 at HCX4 HS4 HQ4 hb14 hb34 hz34 ⊢
  have hz4 := hb14.size
  have HMV : Hid (MvOk m (k : Int)) := Lib.hid ⟨by omega, by omega, by omega⟩
  go_wp2_with fail
  refine (moves8_any _ b m p R x (k : Int) w4 HS4.out HG.out.dim (by omega) (by omega)).mono ?_
  rintro e w5 hh
  obtain ⟨hb5, A5, c5', rfl, hsq5⟩ := hh.ok HMV.out
  have hb15 := hb14.trans (hb5.mono hz4)
  have hz5 := hb15.size
  have hz45 := hb5.size
  have HCX5 := Lib.hid (HCX4.out.below hb5 HCX4.out.lt)
  have HS5 := Lib.hid (HS4.out.below hb5 (Nat.le_refl _))
  have HQ5 := Lib.hid (And.intro ((HQ4.out.wide (Nat.le_refl _) hz34).below hb5 (Nat.le_refl _)) hsq5)
  have c0 := HCX5.out.c0
  have c3 := HCX5.out.c3
  have c4 := HCX5.out.c4
  have d1 : decide ((m : Int) < 4) = false := decide_eq_false (by omega)
  have d2 : decide (m < 4) = false := decide_eq_false (by omega)
  have d3 : decide ((m : Int) > 32) = false := decide_eq_false (by omega)
  have d4' : decide (32 < m) = false := decide_eq_false (by omega)
  have d5 : ((m : Int) != (m : Int)) = false := by simp
  have d6 : decide ((k : Int) < 1) = false := decide_eq_false (by omega)
  have d7 : decide (k < 1) = false := decide_eq_false (by omega)
  have d8 : decide ((k : Int) ≥ 2 * (m : Int)) = false := decide_eq_false (by omega)
  have d9 : decide (2 * m ≤ k) = false := decide_eq_false (by omega)
  have d9' : decide (2 * (m : Int) ≤ (k : Int)) = false := decide_eq_false (by omega)
  have hkt : (k : Int).tmod 2 = 1 := by rw [Int.tmod_eq_emod_of_nonneg (by omega)]; omega
  have hkm : (k : Int) % 2 = 1 := by omega
  have hand := and_dim HG.out.dim
  clear hh hsq5
  go_wp2_with fail
  clear d1 d2 d3 d4' d6 d7 d8 d9 d9' hkt hkm hand
  have HAU : Hid (∀ W, Below w5.heap.size w5 W → Calls Try.prog 28 #[.slice A m c, .int .i64 (k : Int)] W (AutR W m k a)) := Lib.hid fun W hW => auto_any m c k 0 w.heap.size A a W ((HA.out.below hb15 (Nat.le_refl _)).below hW hz5) hn4 hn32 (by omega) (Nat.le_trans hz5 hW.size) (fun i hi => by have := HBL.out i hi; omega)
  have HDE : Hid (∀ W A' c', Below w5.heap.size w5 W → Z.Sq .i64 W w5.heap.size W.heap.size A' m (autF m k a m) → Calls Try.prog 16 #[.pointer (some ⟨b, 0, none⟩), .slice A' m c', .int .i64 (E : Int)] W (RetOk8 W m (decF (p ^ E) m x (autF m k a m)))) := Lib.hid fun W A' c' hW hsq => (decode_any _ b m p R x m c' _ _ (E : Int) A' _ W HG.out (HS5.out.below hW (Nat.le_refl _)) hsq hm (Nat.le_refl _)).mono fun e w' h => by
    have := h.ok ⟨by omega, by omega, rfl, by rw [Int.toNat_natCast]; exact autF_bl HBL.out m (Nat.le_refl _)⟩
    rw [Int.toNat_natCast] at this
    exact this
  have HSX : Hid (∀ W', Below w5.heap.size w5 W' → W'.cell? ⟨w.heap.size, 4, none⟩ = some (.slice A m c) ∧ W'.cell? ⟨w.heap.size, 3, none⟩ = some (.int .i64 (E : Int))) := Lib.hid fun W' hb => ⟨(HCX5.out.below hb HCX5.out.lt).c4, (HCX5.out.below hb HCX5.out.lt).c3⟩
  go_region_held3 (fun w' => w'.cell? ⟨w.heap.size, 4, none⟩ = some (.slice A m c) ∧ w'.cell? ⟨w.heap.size, 3, none⟩ = some (.int .i64 (E : Int)))
    (first
      | exact HSX.out _ (Below.refl _ _)
      | exact HSX.out _ (below_drewN (Below.refl _ _) 1)
      | exact HSX.out _ hb6
      | exact HSX.out _ hb7
      | fail)
    (first
      | (go_at_call 28
         refine (HAU.out (w5.drewN 1) (below_drewN (Below.refl _ _) 1)).mono ?_
         rintro e w6 ⟨hb6', A6, c6', rfl, hsq6⟩
         have hb6 : Below w5.heap.size w5 w6 := (below_drewN (Below.refl _ _) 1).trans hb6'
         have HQ6 := Lib.hid hsq6
         clear hsq6)
      | (go_at_call 16
         refine (HDE.out w6 A6 c6' hb6 HQ6.out).mono ?_
         rintro e w7 ⟨hb7', A7, c7', rfl, hsq7⟩
         have hb7 : Below w5.heap.size w5 w7 := hb6.trans (hb7'.mono hb6.size)
         have HQ7 := Lib.hid (hsq7.wide hb6.size (Nat.le_refl _))
         clear hsq7)
      | fail)
  have hb17 := hb15.trans (hb7.mono hz5)
  have hz7 := hb17.size
  have HCX7 := Lib.hid (HCX5.out.below hb7 HCX5.out.lt)
  have HQ37 := Lib.hid (HQ5.out.1.below hb7 hz45)
  have HQ57 := Lib.hid (HQ5.out.2.below hb7 (Nat.le_refl _))
  have c0 := HCX7.out.c0
  obtain ⟨h, hhe⟩ : ∃ h, m / 2 = h := ⟨_, rfl⟩
  have hht : (m : Int).tdiv 2 = (h : Int) := by rw [Int.tdiv_eq_ediv_of_nonneg (by omega)]; omega
  have hhd : (m : Int) / 2 = (h : Int) := by omega
  have hm2h : m = 2 * h := by have := HG.out.dim; unfold dim8 at this; omega
  obtain ⟨tl1, tl2⟩ := tnN_lt (t := t) hn4
  obtain ⟨tt, htt⟩ : ∃ tt, tnN m t = tt := ⟨_, rfl⟩
  rw [htt, hhe] at tl1 tl2
  have HF : Hid (∀ j, j < m → movN m k j = (if sw then 1 - j / h else j / h) * h + (j % h + tt) % h) := Lib.hid fun j hj => by
    obtain ⟨f1, f2⟩ := turn_fact HG.out.dim tt (by rw [hhe]; exact tl1) j hj
    rw [hhe] at f1 f2
    rw [← HK.out]
    unfold powN
    rw [htt]
    cases sw
    · simpa using f1
    · simpa using f2
  have HM2 := Lib.hid hm2h
  obtain ⟨q, hq⟩ : ∃ q, p ^ E = q := ⟨_, rfl⟩
  have HDA : Hid (∀ j, j < m → decF q m x (autF m k a m) j = decF q m x a (movN m k j)) := Lib.hid fun j hj => by rw [← hq]; exact dec_aut HG.out.dim HZR.out HKO.out hj
  rw [hq] at HQ7 HQ37
  obtain ⟨t0, ht0, t1, t2, t3⟩ := tm_fact t (m := h) (by omega)
  have HT3 : Hid (Cg h t0 (tt : Int)) := Lib.hid (by rw [tl2]; exact t3.trans (Cg.mod t).symm)
  clear hhe hm2h tl2 htt hq t3 c3 c4 HAU HDE HSX
  go_wp2_with fail
  go_loopw [18] (fun I wr => ∃ i : Nat, I = .int .i64 (i : Int) ∧ i ≤ m ∧ ∃ d, wr = w7.drewN d) (fun I _ => m - (intOf I).toNat)
  case atStart => exact ⟨0, rfl, Nat.zero_le _, 0, rfl⟩
  case round =>
    obtain ⟨j, rfl, hjm, d, rfl⟩ := hrel
    by_cases hlt : j < m
    · have e1 : decide ((j : Int) < (m : Int)) = true := decide_eq_true (by omega)
      have hmf := HF.out j hlt
      have hda := HDA.out j hlt
      have hmvlt := (mov_fact HG.out.dim HKO.out hlt).1
      obtain ⟨mv, hmv⟩ : ∃ mv, movN m k j = mv := ⟨_, rfl⟩
      obtain ⟨g1, o1, hA1, _, _, q1⟩ := HQ37.out.2 (by omega)
      obtain ⟨g2, o2, hA2, _, _, q2⟩ := HQ57.out.2 (by omega)
      obtain ⟨g3, o3, hA3, _, _, q3⟩ := HQ7.out.2 (by omega)
      rw [hmv] at hmf hda hmvlt
      have k1 := q1 mv hmvlt
      have k3 := q3 j hlt
      rw [hda] at k3
      obtain ⟨y, hy⟩ : ∃ y, decF q m x a mv = y := ⟨_, rfl⟩
      rw [hy] at k1 k3
      have k2 : w7.cell? ⟨g2, o2 + j, none⟩ = some (.int .i64 (mv : Int)) := by rw [q2 j hlt]; unfold movZ; rw [Int.toNat_natCast, hmv]
      rw [hA1, hA2, hA3]
      obtain ⟨rw0, hrw0⟩ : ∃ r0, j / h = r0 := ⟨_, rfl⟩
      obtain ⟨jm, hjm0⟩ : ∃ r0, j % h = r0 := ⟨_, rfl⟩
      have hjd : (j : Int) / (h : Int) = (rw0 : Int) := by rw [← hrw0]; simp
      have hjdt : (j : Int).tdiv (h : Int) = (rw0 : Int) := by rw [Int.tdiv_eq_ediv_of_nonneg (by omega), hjd]
      have hji : (j : Int) % (h : Int) = (jm : Int) := by rw [← hjm0]; simp
      have hjit : (j : Int).tmod (h : Int) = (jm : Int) := by rw [Int.tmod_eq_emod_of_nonneg (by omega), hji]
      have hjmb : jm < h := by rw [← hjm0]; exact Nat.mod_lt _ (by omega)
      have hrwb : rw0 ≤ 1 := by
        have h5 := Nat.div_add_mod j h
        rw [hrw0, hjm0] at h5
        have h6 := HM2.out
        rcases Nat.lt_or_ge 1 rw0 with h7 | h7
        · have := Nat.mul_le_mul_left h h7
          omega
        · exact h7
      rw [hrw0, hjm0] at hmf
      obtain ⟨col, hcol⟩ : ∃ col, (jm + tt) % h = col := ⟨_, rfl⟩
      have hcolb : col < h := by rw [← hcol]; exact Nat.mod_lt _ (by omega)
      rw [hcol] at hmf
      obtain ⟨b0, hb0, b1, b2, b3⟩ := tm_fact ((jm : Int) + t0) (m := h) (by omega)
      have hcolt : (b0 + (h : Int)).tmod (h : Int) = (col : Int) := by
        rw [Int.tmod_eq_emod_of_nonneg (by omega)]
        have h7 : Cg h (b0 + (h : Int)) ((jm : Int) + (tt : Int)) := ((b3.trans ((Cg.refl h (jm : Int)).add HT3.out)).add (show Cg h (h : Int) 0 from ⟨1, by omega⟩)).trans (Cg.of_eq (by omega))
        rw [cg_emod (by omega) h7, ← hcol]
        simp
      have hh0 : ¬ h = 0 := by omega
      have e5 : (y != y) = false := by simp
      have i0 : 0 ≤ (j : Int) := by omega
      have i1 : (j : Int) < (m : Int) := by omega
      have j0 : 0 ≤ (mv : Int) := by omega
      have j1 : (mv : Int) < (m : Int) := by omega
      have hb100 : -100 ≤ t0 ∧ t0 ≤ 100 := by omega
      clear q1 q2 q3 hA1 hA2 hA3 hda hy hmv hrw0 hjm0 hcol b3
      obtain ⟨d9, hd9⟩ : ∃ d9, rw0 * h = d9 := ⟨_, rfl⟩
      obtain ⟨d8, hd8⟩ : ∃ d8, (1 - rw0) * h = d8 := ⟨_, rfl⟩
      have hd9i : (rw0 : Int) * (h : Int) = (d9 : Int) := by rw [← hd9]; simp
      have hd8i : (1 - (rw0 : Int)) * (h : Int) = (d8 : Int) := by
        rw [← hd8, Int.natCast_mul, Int.ofNat_sub hrwb]
        rfl
      have hd9b : d9 ≤ 16 * 16 := by rw [← hd9]; exact Nat.mul_le_mul (by omega) (by omega)
      have hd8b : d8 ≤ 16 * 16 := by rw [← hd8]; exact Nat.mul_le_mul (by omega) (by omega)
      cases sw
      · have hmi : (mv : Int) = (d9 : Int) + (col : Int) := by
          simp only [Bool.false_eq_true, if_false] at hmf
          omega
        have e6 : ((mv : Int) != (d9 : Int) + (col : Int)) = false := by rw [hmi]; simp
        clear hmf hd9 hd8 hmi
        go_wp2
        go_quiet (fail)
        go_wp2
        go_quiet (fail)
        go_wp2
        go_roundw
        case rel => exact ⟨j + 1, by go_num, hlt, _, rfl⟩
        case measure => simp only [intOf]; omega
      · have hmi : (mv : Int) = (d8 : Int) + (col : Int) := by
          simp only [if_true] at hmf
          omega
        have e6 : ((mv : Int) != (d8 : Int) + (col : Int)) = false := by rw [hmi]; simp
        clear hmf hd9 hd8 hmi
        go_wp2
        go_quiet (fail)
        go_wp2
        go_quiet (fail)
        go_wp2
        go_roundw
        case rel => exact ⟨j + 1, by go_num, hlt, _, rfl⟩
        case measure => simp only [intOf]; omega
    · obtain rfl : m = j := by omega
      have e1 : decide ((m : Int) < (m : Int)) = false := decide_eq_false (by omega)
      have hb17d := below_drewN hb17 d
      have hz7d := hb17d.size
      go_wp2_with fail
      (with_reducible refine (awake8_any (w7.drewN d)).mono ?_)
      rintro e w8 ⟨rfl, hbx⟩
      go_wp2_with fail
      go_ret
      exact ⟨rfl, hb17d.trans (hbx.mono hz7d)⟩
end Go.Proofs.Ytcnkddoipmaddaa
