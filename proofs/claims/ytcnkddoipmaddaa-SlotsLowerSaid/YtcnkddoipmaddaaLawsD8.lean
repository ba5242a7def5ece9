/- The walks of the laws SlotsTwice and SlotsLower: they return true. -/
import Derived.Test.YtcnkddoipmaddaaLawsC8
namespace Go.Proofs.Ytcnkddoipmaddaa
open Go.RowKit
set_option linter.unusedVariables false

/-- Moves of a product is the composition -/
theorem mov_mov {n k l j : Nat} (hd : dim8 n) (hk : k % 2 = 1) (hl : l % 2 = 1) (hj : j < n) : movN n l (movN n k j) = movN n (k * l % (2 * n)) j := by
  obtain ⟨a1, a2⟩ := mov_fact hd hk hj
  obtain ⟨b1, b2⟩ := mov_fact hd hl a1
  obtain ⟨c1, c2⟩ := mov_fact (k := k * l % (2 * n)) hd (odd_mul hk hl) hj
  refine ex_inj hd b1 c1 ?_
  rw [b2, a2, c2, Nat.mod_mul_mod, Nat.mul_assoc, Nat.mul_mod_mod]
/-- the vector for a lower exponent -/
theorem dec_lower {p n e l x j : Nat} {a : Nat → Int} (hle : l ≤ e) (hj : j < n) : decF (p ^ l) n x (fun i => if i < n then bal (p ^ l) (a i) else 0) j = bal (p ^ l) (decF (p ^ e) n x a j) := by
  unfold decF
  rw [if_pos hj, if_pos hj]
  refine bal_congr (Cg.trans ?_ (cg_down hle (bal_cg (p ^ e) (decZ n x a j))).symm)
  refine decZ_cg fun i hi => ?_
  rw [if_pos hi]
  exact bal_cg _ _

set_option maxRecDepth 100000 in
set_option maxHeartbeats 2000000 in
theorem slotsTwice_any (n : Int) (p : Nat) (r ee : Int) (A : Option Addr) (m c : Nat) (v : Value) (k l : Int) (w : World) (hp : p ≤ 4294967295) (hr : r ≤ 9223372036854775807) (hk1 : -9223372036854775808 ≤ k) (hk2 : k ≤ 9223372036854775807) (hl1 : -9223372036854775808 ≤ l) (hl2 : l ≤ 9223372036854775807) :
    Calls Try.prog 10 #[.agg #[.int .i64 n, .int .u32 p, .int .i64 r, .int .i64 ee, .slice A m c, v], .int .i64 k, .int .i64 l] w (RetV w (.bool true)) := by
  have hcx := Cx8.new w n p r ee (.slice A m c) v 25
  have hb1 : Below w.heap.size w (w.alloc (.cells #[.int .i64 n, .int .u32 p, .int .i64 r, .int .i64 ee, .slice A m c, v] 25)) := (Below.refl _ w).alloc (Nat.le_refl _) _
  obtain ⟨w1, hw1⟩ : ∃ w1, w1 = w.alloc (.cells #[.int .i64 n, .int .u32 p, .int .i64 r, .int .i64 ee, .slice A m c, v] 25) := ⟨_, rfl⟩
  rw [← hw1] at hcx hb1
  have HW1 := Lib.hid hw1
  have HCX := Lib.hid hcx
  have c0 := hcx.c0
  have c1 := hcx.c1
  have c2 := hcx.c2
  have hz1 := hb1.size
  clear hw1 hcx
  go_enter Try.func10, Try.ntmps10
  repeat
    fail_if_success rw [← HW1.out]
    go_step
  rw [← HW1.out]
  go_wp2_with fail
  (with_reducible refine (new8_any n p r w1 hp hr).mono ?_)
  rintro e w2 ⟨hb2, hh⟩
  have hb12 := hb1.trans (hb2.mono hz1)
  have hz2 := hb12.size
  have HCX2 := Lib.hid (HCX.out.below hb2 HCX.out.lt)
  clear c0 c1 c2
  rcases hh with ⟨hno, rfl⟩ | ⟨hok, b, x, rfl, hx, hsl⟩
  · clear hno
    go_wp2_with fail
    (with_reducible refine (awake8_any w2).mono ?_)
    rintro e w3 ⟨rfl, hb3⟩
    go_wp2_with fail
    go_ret
    exact ⟨rfl, hb12.trans (hb3.mono hz2)⟩
  obtain ⟨kk, R, rfl, rfl⟩ := new8_open hok
  rw [Int.toNat_natCast, Int.toNat_natCast] at hx hsl
  have HG := Lib.hid (g8_of hok hx)
  have HS2 := Lib.hid hsl
  obtain ⟨hn4, hn32⟩ := HG.out.nb
  clear hok hx hsl
  go_wp2_with fail
  refine (moves8_any _ b kk p R x k w2 HS2.out HG.out.dim hk1 hk2).mono ?_
  rintro e w3 ⟨hb3, hh⟩
  have hb13 := hb12.trans (hb3.mono hz2)
  have hz3 := hb13.size
  have HCX3 := Lib.hid (HCX2.out.below hb3 HCX2.out.lt)
  have HS3 := Lib.hid (HS2.out.below hb3 (Nat.le_refl _))
  obtain ⟨okA, A3, L3, e3, E3, rfl, hA3⟩ : ∃ (okA : Prop) (A3 : Option Addr) (L3 e3 : Nat) (E3 : Int), e = .returned (.tuple #[.slice A3 L3 e3, .int .i64 E3]) ∧ ((MvOk kk k ∧ E3 = 0 ∧ L3 = kk ∧ Z.Sq .i64 w3 w2.heap.size w3.heap.size A3 kk (movZ kk k)) ∨ (¬ MvOk kk k ∧ E3 = 2)) := by
    rcases hh with ⟨hno, rfl⟩ | ⟨hok, A3, c3, rfl, hsq⟩
    · exact ⟨True, _, _, _, _, rfl, .inr ⟨hno, rfl⟩⟩
    · exact ⟨True, _, _, _, _, rfl, .inl ⟨hok, rfl, rfl, hsq⟩⟩
  have HA3 := Lib.hid hA3
  clear hh hA3 okA
  go_wp2_with fail
  refine (moves8_any _ b kk p R x l w3 HS3.out HG.out.dim hl1 hl2).mono ?_
  rintro e w4 ⟨hb4, hh⟩
  have hb14 := hb13.trans (hb4.mono hz3)
  have hz4 := hb14.size
  have HCX4 := Lib.hid (HCX3.out.below hb4 HCX3.out.lt)
  have HS4 := Lib.hid (HS3.out.below hb4 (Nat.le_refl _))
  rcases HA3.out with ⟨hokA, hE3, hL3, hsq3⟩ | ⟨hno, rfl⟩
  rotate_left
  · obtain ⟨A4, L4, e4, E4, rfl⟩ : ∃ (A4 : Option Addr) (L4 e4 : Nat) (E4 : Int), e = .returned (.tuple #[.slice A4 L4 e4, .int .i64 E4]) := by
      rcases hh with ⟨_, rfl⟩ | ⟨_, A4, c4, rfl, _⟩
      · exact ⟨_, _, _, _, rfl⟩
      · exact ⟨_, _, _, _, rfl⟩
    clear hh hno HA3
    go_wp2_with fail
    (with_reducible refine (awake8_any w4).mono ?_)
    rintro e w5 ⟨rfl, hbx⟩
    go_wp2_with fail
    go_ret
    exact ⟨rfl, hb14.trans (hbx.mono hz4)⟩
  subst hE3
  subst hL3
  rcases hh with ⟨hno, rfl⟩ | ⟨hokB, A4, c4', rfl, hsq4⟩
  · clear hno HA3 hsq3 hokA
    go_wp2_with fail
    (with_reducible refine (awake8_any w4).mono ?_)
    rintro e w5 ⟨rfl, hbx⟩
    go_wp2_with fail
    go_ret
    exact ⟨rfl, hb14.trans (hbx.mono hz4)⟩
  have HQ3 := Lib.hid (hsq3.below hb4 (Nat.le_refl _))
  have HQ4 := Lib.hid hsq4
  obtain ⟨ka1, ka2, ka3⟩ := hokA
  obtain ⟨kb1, kb2, kb3⟩ := hokB
  obtain ⟨k, rfl⟩ : ∃ K : Nat, k = (K : Int) := ⟨k.toNat, by omega⟩
  obtain ⟨l, rfl⟩ : ∃ K : Nat, l = (K : Int) := ⟨l.toNat, by omega⟩
  have hkb : k < 64 := by omega
  have hlb : l < 64 := by omega
  have hko : k % 2 = 1 := by omega
  have hlo : l % 2 = 1 := by omega
  obtain ⟨pr, hpr⟩ : ∃ pr, k * l = pr := ⟨_, rfl⟩
  have hpi : (k : Int) * (l : Int) = (pr : Int) := by rw [← hpr]; simp
  have hpb : pr ≤ 64 * 64 := by rw [← hpr]; exact Nat.mul_le_mul (by omega) (by omega)
  obtain ⟨z, hz⟩ : ∃ z, pr % (2 * L3) = z := ⟨_, rfl⟩
  have hzi : (pr : Int) % (2 * (L3 : Int)) = (z : Int) := by rw [← hz]; simp
  have hzt : (pr : Int).tmod (2 * (L3 : Int)) = (z : Int) := by rw [Int.tmod_eq_emod_of_nonneg (by omega), hzi]
  have hzb : z < 2 * L3 := by rw [← hz]; exact Nat.mod_lt _ (by omega)
  have hzo : z % 2 = 1 := by rw [← hz, ← hpr]; exact odd_mul hko hlo
  have HM := Lib.hid (moves8_any _ b L3 p R x (z : Int) w4 HS4.out HG.out.dim (by omega) (by omega))
  have HMOK : Hid (MvOk L3 (z : Int)) := Lib.hid ⟨by omega, by omega, by omega⟩
  have HF : Hid (∀ j, j < L3 → movN L3 k j < L3 ∧ movN L3 l (movN L3 k j) = movN L3 z j) := Lib.hid fun j hj => ⟨(mov_fact HG.out.dim hko hj).1, by rw [mov_mov HG.out.dim hko hlo hj, hpr, hz]⟩
  have c0 := HCX4.out.c0
  have d1 : decide ((L3 : Int) < 4) = false := decide_eq_false (by omega)
  have d2 : decide ((L3 : Int) > 32) = false := decide_eq_false (by omega)
  have d3 : decide ((k : Int) > 64) = false := decide_eq_false (by omega)
  have d4 : decide ((l : Int) > 64) = false := decide_eq_false (by omega)
  have d5 : decide (32 < L3) = false := decide_eq_false (by omega)
  have d6 : decide (64 < k) = false := decide_eq_false (by omega)
  have d7 : decide (64 < l) = false := decide_eq_false (by omega)
  have d8 : decide (L3 < 4) = false := decide_eq_false (by omega)
  have hL0 : ¬ L3 = 0 := by omega
  clear HA3 hsq3 hsq4 hpr hz ka1 ka2 ka3 kb1 kb2 kb3 hko hlo
  go_wp2_with fail
  refine HM.out.mono ?_
  rintro e w5 ⟨hb5, hh⟩
  rcases hh with ⟨hno, _⟩ | ⟨_, A5, c5', rfl, hsq5⟩
  · exact absurd HMOK.out hno
  have hb15 := hb14.trans (hb5.mono hz4)
  have hz5 := hb15.size
  have HCX5 := Lib.hid (HCX4.out.below hb5 HCX4.out.lt)
  have HQ35 := Lib.hid (HQ3.out.below hb5 hb4.size)
  have HQ45 := Lib.hid (HQ4.out.below hb5 (Nat.le_refl _))
  have HQ5 := Lib.hid hsq5
  have c0 := HCX5.out.c0
  have f1 : ((L3 : Int) != (L3 : Int)) = false := by simp
  clear hsq5 d1 d2 d3 d4 d5 d6 d7 d8
  go_wp2_with fail
  go_loopw [15] (fun I wr => ∃ i : Nat, I = .int .i64 (i : Int) ∧ i ≤ L3 ∧ ∃ d, wr = w5.drewN d) (fun I _ => L3 - (intOf I).toNat)
  case atStart => exact ⟨0, rfl, Nat.zero_le _, 0, rfl⟩
  case round =>
    obtain ⟨i, rfl, hiL, d, rfl⟩ := hrel
    by_cases hlt : i < L3
    · have e1 : decide ((i : Int) < (L3 : Int)) = true := decide_eq_true (by omega)
      obtain ⟨m1, m2⟩ := HF.out i hlt
      obtain ⟨mv, hmv⟩ : ∃ mv, movN L3 k i = mv := ⟨_, rfl⟩
      obtain ⟨mz, hmz⟩ : ∃ mz, movN L3 z i = mz := ⟨_, rfl⟩
      rw [hmv] at m1 m2
      rw [hmz] at m2
      obtain ⟨g1, o1, hA1, _, _, q1⟩ := HQ35.out.2 (by omega)
      obtain ⟨g2, o2, hA2, _, _, q2⟩ := HQ45.out.2 (by omega)
      obtain ⟨g3, o3, hA3, _, _, q3⟩ := HQ5.out.2 (by omega)
      have k1 : w5.cell? ⟨g1, o1 + i, none⟩ = some (.int .i64 (mv : Int)) := by rw [q1 i hlt]; unfold movZ; rw [Int.toNat_natCast, hmv]
      have k2 : w5.cell? ⟨g2, o2 + mv, none⟩ = some (.int .i64 (mz : Int)) := by rw [q2 mv m1]; unfold movZ; rw [Int.toNat_natCast, m2]
      have k3 : w5.cell? ⟨g3, o3 + i, none⟩ = some (.int .i64 (mz : Int)) := by rw [q3 i hlt]; unfold movZ; rw [Int.toNat_natCast, hmz]
      rw [hA1, hA2, hA3]
      have e2 : decide ((mv : Int) < 0) = false := decide_eq_false (by omega)
      have e3 : decide ((mv : Int) ≥ (L3 : Int)) = false := decide_eq_false (by omega)
      have e4 : decide (L3 ≤ mv) = false := decide_eq_false (by omega)
      have e5 : ((mz : Int) != (mz : Int)) = false := by simp
      have i0 : 0 ≤ (i : Int) := by omega
      have i1 : (i : Int) < (L3 : Int) := by omega
      have j0 : 0 ≤ (mv : Int) := by omega
      have j1 : (mv : Int) < (L3 : Int) := by omega
      clear q1 q2 q3 hA1 hA2 hA3 hmv hmz m2
      go_wp2
      go_quiet (fail)
      go_wp2
      go_roundw
      case rel => exact ⟨i + 1, by go_num, hlt, _, rfl⟩
      case measure => simp only [intOf]; omega
    · obtain rfl : L3 = i := by omega
      have e1 : decide ((L3 : Int) < (L3 : Int)) = false := decide_eq_false (by omega)
      have hb15d := below_drewN hb15 d
      have hz5d := hb15d.size
      go_wp2_with fail
      (with_reducible refine (awake8_any (w5.drewN d)).mono ?_)
      rintro e w6 ⟨rfl, hbx⟩
      go_wp2_with fail
      go_ret
      exact ⟨rfl, hb15d.trans (hbx.mono hz5d)⟩

set_option maxRecDepth 100000 in
set_option maxHeartbeats 2000000 in
theorem slotsLower_any (n : Int) (p : Nat) (r ee : Int) (m c : Nat) (A : Option Addr) (a : Nat → Int) (v : Value) (lo : Int) (w : World) (hp : p ≤ 4294967295) (hr : r ≤ 9223372036854775807) (ha : Z.Sq .i64 w 0 w.heap.size A m a) (hm : m ≤ 9223372036854775807) :
    Calls Try.prog 6 #[.agg #[.int .i64 n, .int .u32 p, .int .i64 r, .int .i64 ee, .slice A m c, v], .int .i64 lo] w (RetV w (.bool true)) := by
  have hcx := Cx8.new w n p r ee (.slice A m c) v 25
  have hb1 : Below w.heap.size w (w.alloc (.cells #[.int .i64 n, .int .u32 p, .int .i64 r, .int .i64 ee, .slice A m c, v] 25)) := (Below.refl _ w).alloc (Nat.le_refl _) _
  obtain ⟨w1, hw1⟩ : ∃ w1, w1 = w.alloc (.cells #[.int .i64 n, .int .u32 p, .int .i64 r, .int .i64 ee, .slice A m c, v] 25) := ⟨_, rfl⟩
  rw [← hw1] at hcx hb1
  have HW1 := Lib.hid hw1
  have HCX := Lib.hid hcx
  have c0 := hcx.c0
  have c1 := hcx.c1
  have c2 := hcx.c2
  have hz1 := hb1.size
  clear hw1 hcx
  have HA := Lib.hid ha
  clear ha
  go_enter Try.func6, Try.ntmps6
  repeat
    fail_if_success rw [← HW1.out]
    go_step
  rw [← HW1.out]
  go_wp2_with fail
  (with_reducible refine (new8_any n p r w1 hp hr).mono ?_)
  rintro e w2 ⟨hb2, hh⟩
  have hb12 := hb1.trans (hb2.mono hz1)
  have hz2 := hb12.size
  have HCX2 := Lib.hid (HCX.out.below hb2 HCX.out.lt)
  clear c0 c1 c2
  rcases hh with ⟨hno, rfl⟩ | ⟨hok, b, x, rfl, hx, hsl⟩
  · clear hno
    go_wp2_with fail
    (with_reducible refine (awake8_any w2).mono ?_)
    rintro e w3 ⟨rfl, hb3⟩
    go_wp2_with fail
    go_ret
    exact ⟨rfl, hb12.trans (hb3.mono hz2)⟩
  obtain ⟨kk, R, rfl, rfl⟩ := new8_open hok
  rw [Int.toNat_natCast, Int.toNat_natCast] at hx hsl
  have HG := Lib.hid (g8_of hok hx)
  have HS2 := Lib.hid hsl
  obtain ⟨hn4, hn32⟩ := HG.out.nb
  clear hok hx hsl
  have c3 := HCX2.out.c3
  have c4 := HCX2.out.c4
  have HD := Lib.hid (decode_any _ b kk p R x m c 0 w.heap.size ee A a w2 HG.out HS2.out (HA.out.below hb12 (Nat.le_refl _)) hm hz2)
  go_wp2_with fail
  refine HD.out.mono ?_
  rintro e w3 ⟨hb3, hh⟩
  have hb13 := hb12.trans (hb3.mono hz2)
  have hz3 := hb13.size
  have HCX3 := Lib.hid (HCX2.out.below hb3 HCX2.out.lt)
  have HS3 := Lib.hid (HS2.out.below hb3 (Nat.le_refl _))
  clear c3 c4
  have c0 := HCX3.out.c0
  have c1 := HCX3.out.c1
  have c2 := HCX3.out.c2
  have c3 := HCX3.out.c3
  have c4 := HCX3.out.c4
  rcases hh with ⟨hno, rfl⟩ | ⟨hok, A3, c3', rfl, hsq3⟩
  · clear hno
    go_wp2_with fail
    (with_reducible refine (awake8_any w3).mono ?_)
    rintro e w4 ⟨rfl, hbx⟩
    go_wp2_with fail
    go_ret
    exact ⟨rfl, hb13.trans (hbx.mono hz3)⟩
  by_cases hlow : 1 ≤ lo ∧ lo ≤ ee
  rotate_left
  · have hcs : lo < 1 ∨ (1 ≤ lo ∧ ee < lo) := by omega
    clear hlow hok hsq3
    rcases hcs with h1 | ⟨h1, h2⟩
    · have d1 : decide (lo < 1) = true := decide_eq_true (by omega)
      go_wp2_with fail
      (with_reducible refine (awake8_any w3).mono ?_)
      rintro e w4 ⟨rfl, hbx⟩
      go_wp2_with fail
      go_ret
      exact ⟨rfl, hb13.trans (hbx.mono hz3)⟩
    · have d1 : decide (lo < 1) = false := decide_eq_false (by omega)
      have d2 : decide (lo > ee) = true := decide_eq_true (by omega)
      have d3 : decide (ee < lo) = true := decide_eq_true (by omega)
      go_wp2_with fail
      (with_reducible refine (awake8_any w3).mono ?_)
      rintro e w4 ⟨rfl, hbx⟩
      go_wp2_with fail
      go_ret
      exact ⟨rfl, hb13.trans (hbx.mono hz3)⟩
  obtain ⟨hE1, hE2, hmk, hBl⟩ := hok
  subst hmk
  obtain ⟨E, rfl⟩ : ∃ E : Nat, ee = (E : Int) := ⟨ee.toNat, by omega⟩
  obtain ⟨lo, rfl⟩ : ∃ L : Nat, lo = (L : Int) := ⟨lo.toNat, by omega⟩
  rw [Int.toNat_natCast] at hsq3 hBl
  have hloE : lo ≤ E := by omega
  have hER : E ≤ R := by omega
  have hlo1 : 1 ≤ lo := by omega
  obtain ⟨hq3, hq31, hqo⟩ := HG.out.pe (e := lo) (by omega) (by omega)
  have hp3 := HG.out.p3
  have hp6 := HG.out.p6
  have hR7 := HG.out.R7
  have HQ3 := Lib.hid hsq3
  have d1 : decide ((lo : Int) < 1) = false := decide_eq_false (by omega)
  have d2 : decide ((lo : Int) > (E : Int)) = false := decide_eq_false (by omega)
  have d3 : decide (E < lo) = false := decide_eq_false (by omega)
  have d4 : decide ((R : Int) > 7) = false := decide_eq_false (by omega)
  have d5 : decide (7 < R) = false := decide_eq_false (by omega)
  have d6 : decide ((E : Int) > (R : Int)) = false := decide_eq_false (by omega)
  have d7 : decide (R < E) = false := decide_eq_false (by omega)
  have d8 : ((m : Int) != (m : Int)) = false := by simp
  have d9 : decide ((p : Int) < 3) = false := decide_eq_false (by omega)
  have d10 : decide (p < 3) = false := decide_eq_false (by omega)
  have d11 : decide (lo < 1) = false := decide_eq_false (by omega)
  obtain ⟨q, hq⟩ : ∃ q, p ^ lo = q := ⟨_, rfl⟩
  rw [hq] at hq3 hq31 hqo
  have HQQ := Lib.hid hq
  clear hlow hE1 hE2 hsq3 hBl hq
  go_wp2_with fail
  go_loop [9, 10] (fun M I => ∃ i mm : Nat, M = .int .i64 (mm : Int) ∧ I = .int .i64 (i : Int) ∧ i ≤ lo ∧ mm ≤ 2147483647 ∧ p ^ i = mm) (fun _ I => lo - (intOf I).toNat)
  case atStart => exact ⟨0, 1, rfl, rfl, Nat.zero_le _, by omega, Nat.pow_zero p⟩
  case round =>
    obtain ⟨i, mm, rfl, rfl, hik, hmb, hpm⟩ := hrel
    by_cases hlt : i < lo
    · obtain ⟨m2, hm2⟩ : ∃ m2, mm * p = m2 := ⟨_, rfl⟩
      have hm2i : (mm : Int) * (p : Int) = (m2 : Int) := by rw [← hm2]; simp
      have hp2 : p ^ (i + 1) = m2 := by rw [Nat.pow_succ, hpm, hm2]
      have hm3 : m2 ≤ 2147483647 := by
        have := Nat.pow_le_pow_right (show 0 < p by omega) (show i + 1 ≤ lo by omega)
        have := HQQ.out
        omega
      have e1 : decide ((i : Int) < (lo : Int)) = true := decide_eq_true (by omega)
      have HP2 := Lib.hid hp2
      clear hm2 hp2 hpm
      go_wp2
      go_round
      case rel => exact ⟨i + 1, m2, rfl, by go_num, hlt, hm3, HP2.out⟩
      case measure => simp only [intOf]; omega
    · obtain rfl : lo = i := by omega
      have e1 : decide ((lo : Int) < (lo : Int)) = false := decide_eq_false (by omega)
      obtain rfl : q = mm := HQQ.out.symm.trans hpm
      clear hpm d1 d2 d3 d4 d5 d6 d7 d9 d10 d11 c0 c1 c2 c3
      go_wp2
      go_loopw [11, 12] (fun O I wr => ∃ (i : Nat) (A2 : Option Addr) (c2 : Nat), i ≤ m ∧ I = .int .i64 (i : Int) ∧ O = .slice A2 i c2 ∧ Z.Own .i64 wr w3.heap.size 2 A2 i c2 (trZ i (fun i => if i < m then bal q (a i) else 0)) ∧ Below w3.heap.size w3 wr) (fun _ I _ => m - (intOf I).toNat)
      case atStart => exact ⟨0, none, 0, Nat.zero_le _, rfl, rfl, Z.Own.congr (Z.Own.nil _ _ _ _) (fun j => (if_neg (by omega)).symm), Below.refl _ _⟩
      case round =>
        obtain ⟨i, A2, c2, him, rfl, rfl, hown, hbl⟩ := hrel
        have hzr := hbl.size
        have HOWN := Lib.hid hown
        have HBE := Lib.hid hbl
        clear hown c4
        have c4 := (HCX3.out.below hbl HCX3.out.lt).c4
        by_cases hin : i < m
        · have e2 : decide ((i : Int) < (m : Int)) = true := decide_eq_true (by omega)
          obtain ⟨gg, off, hAe, _, hgl, hcell⟩ := ((HA.out.below hb13 (Nat.le_refl _)).below hbl hz3).2 (by omega)
          have ka := hcell i hin
          obtain ⟨y, hy⟩ : ∃ y, a i = y := ⟨_, rfl⟩
          rw [hy] at ka
          rw [hAe] at c4
          have HBA := Lib.hid (fun W => rbal8_any y q W hq3 hq31 hqo)
          obtain ⟨vv, hv⟩ : ∃ vv, bal q y = vv := ⟨_, rfl⟩
          rw [hv] at HBA
          have HV : Hid (Value.int .i64 vv = .int .i64 ((fun i => if i < m then bal q (a i) else 0) i)) := Lib.hid (by dsimp only; rw [if_pos hin, hy, hv])
          have i0 : 0 ≤ (i : Int) := by omega
          have i1 : (i : Int) < (m : Int) := by omega
          clear hcell hy hv hAe hbl
          go_wp2_with (first | (go_at_call 22; refine (HBA.out _).mono ?_; rintro e w' ⟨rfl, hw⟩; subst hw) | (at_builtin; refine Z.wpl_append rfl _ _ _ rfl e64s rfl (HOWN.out.alloc _) rfl (Z.sq_one (x := (fun i => if i < m then bal q (a i) else 0) i) (lo := 0) HV.out (Nat.zero_le _) (Nat.lt_succ_self _)) (trZ (i + 1) (fun i => if i < m then bal q (a i) else 0)) (fun k hk => trZ_lt hk) trZ_add (by unfold maxLen; omega) (by omega) (by simp; omega) ?_; intro A4 c4' w4 hown3 hg3 hb3' hat3))
          go_roundw
          case rel => exact ⟨i + 1, A4, c4', hin, by go_num, rfl, hown3, (HBE.out.alloc hzr _).trans hb3'⟩
          case measure => simp only [intOf]; omega
        · obtain rfl : m = i := by omega
          have e2 : decide ((m : Int) < (m : Int)) = false := decide_eq_false (by omega)
          have hO := Z.Own.congr (g := fun i => if i < m then bal q (a i) else 0) HOWN.out fun k => by
            unfold trZ
            by_cases hkm : k < m
            · rw [if_pos hkm]
            · rw [if_neg hkm]
              show (0 : Int) = (if k < m then bal q (a k) else 0)
              rw [if_neg hkm]
          have hb1r := hb13.trans (hbl.mono hz3)
          have hz1r := hb1r.size
          have HSr := Lib.hid (HS3.out.below hbl (Nat.le_refl _))
          have HQr := Lib.hid (HQ3.out.below hbl (Nat.le_refl _))
          have HCXr := Lib.hid (HCX3.out.below hbl HCX3.out.lt)
          have HD2 := Lib.hid (decode_any _ b m p R x m c2 _ _ (lo : Int) A2 _ wr HG.out HSr.out (hO.sq (Nat.le_refl _)) hm (Nat.le_refl _))
          have HOK2 : Hid (VOk m p R m (fun i => if i < m then bal q (a i) else 0) (lo : Int)) := Lib.hid ⟨by omega, by omega, rfl, fun i hi => by
            rw [Int.toNat_natCast, HQQ.out]
            dsimp only
            rw [if_pos hi]
            exact bal_bound hqo _⟩
          rw [Int.toNat_natCast] at HD2
          clear hbl hO
          go_wp2_with fail
          refine HD2.out.mono ?_
          rintro e w5 ⟨hb5, hh⟩
          rcases hh with ⟨hno, _⟩ | ⟨_, A5, c5', rfl, hsq5⟩
          · exact absurd HOK2.out hno
          have hb15 := hb1r.trans (hb5.mono hz1r)
          have hz5 := hb15.size
          have HQ35 := Lib.hid (HQr.out.below hb5 hzr)
          have HQ5 := Lib.hid hsq5
          have HCX5 := Lib.hid (HCXr.out.below hb5 HCXr.out.lt)
          have c0 := HCX5.out.c0
          clear hsq5 c4
          go_wp2_with fail
          go_loopw [15] (fun I wr2 => ∃ i : Nat, I = .int .i64 (i : Int) ∧ i ≤ m ∧ ∃ d, wr2 = w5.drewN d) (fun I _ => m - (intOf I).toNat)
          case atStart => exact ⟨0, rfl, Nat.zero_le _, 0, rfl⟩
          case round =>
            obtain ⟨i, rfl, hiL, d, rfl⟩ := hrel
            by_cases hlt : i < m
            · have e1 : decide ((i : Int) < (m : Int)) = true := decide_eq_true (by omega)
              obtain ⟨g1, o1, hA1, _, _, q1⟩ := HQ35.out.2 (by omega)
              obtain ⟨g2, o2, hA2, _, _, q2⟩ := HQ5.out.2 (by omega)
              have k1 := q1 i hlt
              have k2 := q2 i hlt
              have hdl := dec_lower (p := p) (n := m) (e := E) (l := lo) (x := x) (a := a) hloE hlt
              rw [HQQ.out] at hdl k2
              rw [hdl] at k2
              obtain ⟨y, hy⟩ : ∃ y, decF (p ^ E) m x a i = y := ⟨_, rfl⟩
              rw [hy] at k1 k2
              have HBA := Lib.hid (fun d => rbal8_any y q (w5.drewN d) hq3 hq31 hqo)
              obtain ⟨vv, hv⟩ : ∃ vv, bal q y = vv := ⟨_, rfl⟩
              rw [hv] at HBA k2
              rw [hA1, hA2]
              have e5 : (vv != vv) = false := by simp
              have i0 : 0 ≤ (i : Int) := by omega
              have i1 : (i : Int) < (m : Int) := by omega
              clear q1 q2 hA1 hA2 hdl hy hv
              go_wp2
              go_quiet ((exact (HBA.out _).mono fun e w' hh => ⟨hh.1, _, hh.2.symm⟩))
              go_wp2
              go_roundw
              case rel => exact ⟨i + 1, by go_num, hlt, _, rfl⟩
              case measure => simp only [intOf]; omega
            · obtain rfl : m = i := by omega
              have e1 : decide ((m : Int) < (m : Int)) = false := decide_eq_false (by omega)
              have hb15d := below_drewN hb15 d
              have hz5d := hb15d.size
              go_wp2_with fail
              (with_reducible refine (awake8_any (w5.drewN d)).mono ?_)
              rintro e w6 ⟨rfl, hbx⟩
              go_wp2_with fail
              go_ret
              exact ⟨rfl, hb15d.trans (hbx.mono hz5d)⟩
end Go.Proofs.Ytcnkddoipmaddaa
