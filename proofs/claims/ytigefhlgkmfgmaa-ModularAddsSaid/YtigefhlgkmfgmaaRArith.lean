/- The contracts of the small functions of the reference of layer 1; trial division. -/
import Derived.Test.YtigefhlgkmfgmaaArith
namespace Go.Proofs.Ytigefhlgkmfgmaa
open Go.RowKit
set_option linter.unusedVariables false


set_option maxHeartbeats 400000 in
theorem radd_any (a b n : Nat) (w : World) (ha : a ≤ 4294967295) (hb : b ≤ 4294967295) (hn : n ≤ 4294967295) : Calls Try.prog 30 #[.int .u32 a, .int .u32 b, .int .u32 n] w (RetNE w (addP a b n)) := by
  have HM := Lib.hid (modulus_any n w)
  by_cases hm : 2 ≤ n ∧ n ≤ 2147483647
  rotate_left
  · rw [decide_eq_false hm] at HM
    have hp : addP a b n = (0, 2) := if_neg (fun h => hm (show Mok n from h.1))
    rw [hp]
    clear hp
    go_enter Try.func30, Try.ntmps30
    go_wp2_with fail
    (with_reducible refine HM.out.mono ?_)
    rintro e w' ⟨rfl, hw'⟩
    subst hw'
    go_wp2_with fail
    go_ret2
    exact .mk rfl rfl (Below.refl _ _)
  rw [decide_eq_true hm] at HM
  obtain ⟨h1, h2⟩ := hm
  by_cases ha1 : a < n
  rotate_left
  · have qa : decide ((a : Int) ≥ (n : Int)) = true := decide_eq_true (by omega)
    have hp : addP a b n = (0, 2) := if_neg (fun h => ha1 h.2.1)
    rw [hp]
    clear hp
    go_enter Try.func30, Try.ntmps30
    go_wp2_with fail
    (with_reducible refine HM.out.mono ?_)
    rintro e w' ⟨rfl, hw'⟩
    subst hw'
    go_wp2_with fail
    go_ret2
    exact .mk rfl rfl (Below.refl _ _)
  have qa : decide ((a : Int) ≥ (n : Int)) = false := decide_eq_false (by omega)
  by_cases hb1 : b < n
  rotate_left
  · have qb : decide ((b : Int) ≥ (n : Int)) = true := decide_eq_true (by omega)
    have hp : addP a b n = (0, 2) := if_neg (fun h => hb1 h.2.2)
    rw [hp]
    clear hp
    go_enter Try.func30, Try.ntmps30
    go_wp2_with fail
    (with_reducible refine HM.out.mono ?_)
    rintro e w' ⟨rfl, hw'⟩
    subst hw'
    go_wp2_with fail
    go_ret2
    exact .mk rfl rfl (Below.refl _ _)
  have qb : decide ((b : Int) ≥ (n : Int)) = false := decide_eq_false (by omega)
  have hp : addP a b n = ((a + b) % n, 0) := if_pos ⟨⟨h1, h2⟩, ha1, hb1⟩
  rw [hp]
  clear hp
  have hn0 : ¬ n = 0 := by omega
  have m3 : 0 ≤ ((a : Int) + (b : Int)) % (n : Int) := Int.emod_nonneg _ (by omega)
  have m4 : ((a : Int) + (b : Int)) % (n : Int) < (n : Int) := Int.emod_lt_of_pos _ (by omega)
  go_enter Try.func30, Try.ntmps30
  go_wp2_with fail
  (with_reducible refine HM.out.mono ?_)
  rintro e w' ⟨rfl, hw'⟩
  subst hw'
  go_wp2_with fail
  go_ret2
  exact .mk (by simp) rfl (Below.refl _ _)

set_option maxHeartbeats 400000 in
theorem rsub_any (a b n : Nat) (w : World) (ha : a ≤ 4294967295) (hb : b ≤ 4294967295) (hn : n ≤ 4294967295) : Calls Try.prog 32 #[.int .u32 a, .int .u32 b, .int .u32 n] w (RetNE w (subP a b n)) := by
  have HM := Lib.hid (modulus_any n w)
  by_cases hm : 2 ≤ n ∧ n ≤ 2147483647
  rotate_left
  · rw [decide_eq_false hm] at HM
    have hp : subP a b n = (0, 2) := if_neg (fun h => hm (show Mok n from h.1))
    rw [hp]
    clear hp
    go_enter Try.func32, Try.ntmps32
    go_wp2_with fail
    (with_reducible refine HM.out.mono ?_)
    rintro e w' ⟨rfl, hw'⟩
    subst hw'
    go_wp2_with fail
    go_ret2
    exact .mk rfl rfl (Below.refl _ _)
  rw [decide_eq_true hm] at HM
  obtain ⟨h1, h2⟩ := hm
  by_cases ha1 : a < n
  rotate_left
  · have qa : decide ((a : Int) ≥ (n : Int)) = true := decide_eq_true (by omega)
    have hp : subP a b n = (0, 2) := if_neg (fun h => ha1 h.2.1)
    rw [hp]
    clear hp
    go_enter Try.func32, Try.ntmps32
    go_wp2_with fail
    (with_reducible refine HM.out.mono ?_)
    rintro e w' ⟨rfl, hw'⟩
    subst hw'
    go_wp2_with fail
    go_ret2
    exact .mk rfl rfl (Below.refl _ _)
  have qa : decide ((a : Int) ≥ (n : Int)) = false := decide_eq_false (by omega)
  by_cases hb1 : b < n
  rotate_left
  · have qb : decide ((b : Int) ≥ (n : Int)) = true := decide_eq_true (by omega)
    have hp : subP a b n = (0, 2) := if_neg (fun h => hb1 h.2.2)
    rw [hp]
    clear hp
    go_enter Try.func32, Try.ntmps32
    go_wp2_with fail
    (with_reducible refine HM.out.mono ?_)
    rintro e w' ⟨rfl, hw'⟩
    subst hw'
    go_wp2_with fail
    go_ret2
    exact .mk rfl rfl (Below.refl _ _)
  have qb : decide ((b : Int) ≥ (n : Int)) = false := decide_eq_false (by omega)
  have hp : subP a b n = ((a + n - b) % n, 0) := if_pos ⟨⟨h1, h2⟩, ha1, hb1⟩
  rw [hp]
  clear hp
  have hn0 : ¬ n = 0 := by omega
  have m3 : 0 ≤ ((a : Int) + (n : Int) - (b : Int)) % (n : Int) := Int.emod_nonneg _ (by omega)
  have m4 : ((a : Int) + (n : Int) - (b : Int)) % (n : Int) < (n : Int) := Int.emod_lt_of_pos _ (by omega)
  have hcast : (((a + n - b) % n : Nat) : Int) = ((a : Int) + (n : Int) - (b : Int)) % (n : Int) := by rw [Int.natCast_emod, Int.ofNat_sub (by omega)]; simp
  have HC := Lib.hid hcast
  clear hcast
  go_enter Try.func32, Try.ntmps32
  go_wp2_with fail
  (with_reducible refine HM.out.mono ?_)
  rintro e w' ⟨rfl, hw'⟩
  subst hw'
  go_wp2_with fail
  go_ret2
  exact .mk HC.out.symm rfl (Below.refl _ _)

set_option maxHeartbeats 400000 in
theorem rmul_any (a b n : Nat) (w : World) (ha : a ≤ 4294967295) (hb : b ≤ 4294967295) (hn : n ≤ 4294967295) : Calls Try.prog 34 #[.int .u32 a, .int .u32 b, .int .u32 n] w (RetNE w (mulP a b n)) := by
  have HM := Lib.hid (modulus_any n w)
  by_cases hm : 2 ≤ n ∧ n ≤ 2147483647
  rotate_left
  · rw [decide_eq_false hm] at HM
    have hp : mulP a b n = (0, 2) := if_neg (fun h => hm (show Mok n from h.1))
    rw [hp]
    clear hp
    go_enter Try.func34, Try.ntmps34
    go_wp2_with fail
    (with_reducible refine HM.out.mono ?_)
    rintro e w' ⟨rfl, hw'⟩
    subst hw'
    go_wp2_with fail
    go_ret2
    exact .mk rfl rfl (Below.refl _ _)
  rw [decide_eq_true hm] at HM
  obtain ⟨h1, h2⟩ := hm
  by_cases ha1 : a < n
  rotate_left
  · have qa : decide ((a : Int) ≥ (n : Int)) = true := decide_eq_true (by omega)
    have hp : mulP a b n = (0, 2) := if_neg (fun h => ha1 h.2.1)
    rw [hp]
    clear hp
    go_enter Try.func34, Try.ntmps34
    go_wp2_with fail
    (with_reducible refine HM.out.mono ?_)
    rintro e w' ⟨rfl, hw'⟩
    subst hw'
    go_wp2_with fail
    go_ret2
    exact .mk rfl rfl (Below.refl _ _)
  have qa : decide ((a : Int) ≥ (n : Int)) = false := decide_eq_false (by omega)
  by_cases hb1 : b < n
  rotate_left
  · have qb : decide ((b : Int) ≥ (n : Int)) = true := decide_eq_true (by omega)
    have hp : mulP a b n = (0, 2) := if_neg (fun h => hb1 h.2.2)
    rw [hp]
    clear hp
    go_enter Try.func34, Try.ntmps34
    go_wp2_with fail
    (with_reducible refine HM.out.mono ?_)
    rintro e w' ⟨rfl, hw'⟩
    subst hw'
    go_wp2_with fail
    go_ret2
    exact .mk rfl rfl (Below.refl _ _)
  have qb : decide ((b : Int) ≥ (n : Int)) = false := decide_eq_false (by omega)
  have hp : mulP a b n = (a * b % n, 0) := if_pos ⟨⟨h1, h2⟩, ha1, hb1⟩
  rw [hp]
  clear hp
  have HT := Lib.hid (rtimes_any a b n w ha hb (by omega) hn)
  obtain ⟨x, hx⟩ : ∃ x, a * b % n = x := ⟨_, rfl⟩
  rw [hx] at HT ⊢
  clear hx
  go_enter Try.func34, Try.ntmps34
  go_wp2_with fail
  (with_reducible refine HM.out.mono ?_)
  rintro e w' ⟨rfl, hw'⟩
  subst hw'
  go_wp2_with fail
  (with_reducible refine HT.out.mono ?_)
  rintro e w2 ⟨rfl, hw'⟩
  subst hw'
  go_wp2_with fail
  go_ret2
  exact .mk rfl rfl (Below.refl _ _)

set_option maxHeartbeats 400000 in
theorem rpow_any (a k n : Nat) (w : World) (ha : a ≤ 4294967295) (hk : k < 18446744073709551616) (hn : n ≤ 4294967295) : Calls Try.prog 18 #[.int .u32 a, .int .u64 k, .int .u32 n] w (RetNE w (powP a k n)) := by
  have HM := Lib.hid (modulus_any n w)
  by_cases hm : 2 ≤ n ∧ n ≤ 2147483647
  rotate_left
  · rw [decide_eq_false hm] at HM
    have hp : powP a k n = (0, 2) := if_neg (fun h => hm (show Mok n from h.1))
    rw [hp]
    clear hp
    go_enter Try.func18, Try.ntmps18
    go_wp2_with fail
    (with_reducible refine HM.out.mono ?_)
    rintro e w' ⟨rfl, hw'⟩
    subst hw'
    go_wp2_with fail
    go_ret2
    exact .mk rfl rfl (Below.refl _ _)
  rw [decide_eq_true hm] at HM
  obtain ⟨h1, h2⟩ := hm
  by_cases ha1 : a < n
  rotate_left
  · have qa : decide ((a : Int) ≥ (n : Int)) = true := decide_eq_true (by omega)
    have hp : powP a k n = (0, 2) := if_neg (fun h => ha1 h.2)
    rw [hp]
    clear hp
    go_enter Try.func18, Try.ntmps18
    go_wp2_with fail
    (with_reducible refine HM.out.mono ?_)
    rintro e w' ⟨rfl, hw'⟩
    subst hw'
    go_wp2_with fail
    go_ret2
    exact .mk rfl rfl (Below.refl _ _)
  have qa : decide ((a : Int) ≥ (n : Int)) = false := decide_eq_false (by omega)
  have hp : powP a k n = (a ^ k % n, 0) := if_pos ⟨⟨h1, h2⟩, ha1⟩
  rw [hp]
  clear hp
  have HT := Lib.hid (rpower_any a k n w ha hk h1 hn)
  obtain ⟨x, hx⟩ : ∃ x, a ^ k % n = x := ⟨_, rfl⟩
  rw [hx] at HT ⊢
  clear hx
  go_enter Try.func18, Try.ntmps18
  go_wp2_with fail
  (with_reducible refine HM.out.mono ?_)
  rintro e w' ⟨rfl, hw'⟩
  subst hw'
  go_wp2_with fail
  (with_reducible refine HT.out.mono ?_)
  rintro e w2 ⟨rfl, hw'⟩
  subst hw'
  go_wp2_with fail
  go_ret2
  exact .mk rfl rfl (Below.refl _ _)

set_option maxHeartbeats 400000 in
theorem rof_any (v : Int) (n : Nat) (w : World) (hv : -9223372036854775808 ≤ v) (hv2 : v ≤ 9223372036854775807) (hn : n ≤ 4294967295) : Calls Try.prog 35 #[.int .i64 v, .int .u32 n] w (RetNE w (ofP v n)) := by
  have HM := Lib.hid (modulus_any n w)
  by_cases hm : 2 ≤ n ∧ n ≤ 2147483647
  rotate_left
  · rw [decide_eq_false hm] at HM
    have hp : ofP v n = (0, 2) := if_neg (fun h => hm (show Mok n from h))
    rw [hp]
    clear hp
    go_enter Try.func35, Try.ntmps35
    go_wp2_with fail
    (with_reducible refine HM.out.mono ?_)
    rintro e w' ⟨rfl, hw'⟩
    subst hw'
    go_wp2_with fail
    go_ret2
    exact .mk rfl rfl (Below.refl _ _)
  rw [decide_eq_true hm] at HM
  obtain ⟨h1, h2⟩ := hm
  have hp : ofP v n = ((v % (n : Int)).toNat, 0) := if_pos ⟨h1, h2⟩
  rw [hp]
  clear hp
  have m3 := Int.emod_nonneg v (show (n : Int) ≠ 0 by omega)
  have m4 := Int.emod_lt_of_pos v (show 0 < (n : Int) by omega)
  have t0 : -(n : Int) < v.tmod (n : Int) := by have := @Int.tmod_eq_emod v (n : Int); split at this <;> omega
  have t1 : v.tmod (n : Int) < (n : Int) := by have := @Int.tmod_eq_emod v (n : Int); split at this <;> omega
  have hn0 : ¬ n = 0 := by omega
  by_cases hs : v.tmod (n : Int) < 0
  · have q1 : decide (v.tmod (n : Int) < 0) = true := decide_eq_true hs
    have HFX := Lib.hid (tmod_neg_fix (show 0 < (n : Int) by omega) hs)
    go_enter Try.func35, Try.ntmps35
    go_wp2_with fail
    (with_reducible refine HM.out.mono ?_)
    rintro e w' ⟨rfl, hw'⟩
    subst hw'
    go_wp2_with fail
    go_ret2
    exact .mk (by rw [HFX.out]; simp; omega) rfl (Below.refl _ _)
  · have q1 : decide (v.tmod (n : Int) < 0) = false := decide_eq_false hs
    have HFX := Lib.hid (tmod_pos_fix (show 0 < (n : Int) by omega) hs)
    go_enter Try.func35, Try.ntmps35
    go_wp2_with fail
    (with_reducible refine HM.out.mono ?_)
    rintro e w' ⟨rfl, hw'⟩
    subst hw'
    go_wp2_with fail
    go_ret2
    exact .mk (by rw [HFX.out]; simp; omega) rfl (Below.refl _ _)

set_option maxHeartbeats 400000 in
theorem rbal_any (a n : Nat) (w : World) (ha : a ≤ 4294967295) (hn : n ≤ 4294967295) : Calls Try.prog 36 #[.int .u32 a, .int .u32 n] w (RetIE w (balP a n)) := by
  have HM := Lib.hid (modulus_any n w)
  by_cases hm : 2 ≤ n ∧ n ≤ 2147483647
  rotate_left
  · rw [decide_eq_false hm] at HM
    have hp : balP a n = (0, 2) := if_neg (fun h => hm (show Mok n from h.1))
    rw [hp]
    clear hp
    go_enter Try.func36, Try.ntmps36
    go_wp2_with fail
    (with_reducible refine HM.out.mono ?_)
    rintro e w' ⟨rfl, hw'⟩
    subst hw'
    go_wp2_with fail
    go_ret2
    exact .mk rfl rfl (Below.refl _ _)
  rw [decide_eq_true hm] at HM
  obtain ⟨h1, h2⟩ := hm
  by_cases ha1 : a < n
  rotate_left
  · have qa : decide ((a : Int) ≥ (n : Int)) = true := decide_eq_true (by omega)
    have hp : balP a n = (0, 2) := if_neg (fun h => ha1 h.2)
    rw [hp]
    clear hp
    go_enter Try.func36, Try.ntmps36
    go_wp2_with fail
    (with_reducible refine HM.out.mono ?_)
    rintro e w' ⟨rfl, hw'⟩
    subst hw'
    go_wp2_with fail
    go_ret2
    exact .mk rfl rfl (Below.refl _ _)
  have qa : decide ((a : Int) ≥ (n : Int)) = false := decide_eq_false (by omega)
  have hp : balP a n = ((if n < 2 * a then (a : Int) - n else a), 0) := if_pos ⟨⟨h1, h2⟩, ha1⟩
  rw [hp]
  clear hp
  by_cases hs : n < 2 * a
  · have q1 : decide (2 * (a : Int) > (n : Int)) = true := decide_eq_true (by omega)
    rw [if_pos hs]
    go_enter Try.func36, Try.ntmps36
    go_wp2_with fail
    (with_reducible refine HM.out.mono ?_)
    rintro e w' ⟨rfl, hw'⟩
    subst hw'
    go_wp2_with fail
    go_ret2
    exact .mk rfl rfl (Below.refl _ _)
  · have q1 : decide (2 * (a : Int) > (n : Int)) = false := decide_eq_false (by omega)
    rw [if_neg hs]
    go_enter Try.func36, Try.ntmps36
    go_wp2_with fail
    (with_reducible refine HM.out.mono ?_)
    rintro e w' ⟨rfl, hw'⟩
    subst hw'
    go_wp2_with fail
    go_ret2
    exact .mk rfl rfl (Below.refl _ _)

theorem invE_P {a n : Nat} : invE a n = if Mok n ∧ a < n then (if Nat.gcd n a = 1 then (invN a n, 0) else (0, 4)) else (0, 2) := by
  unfold invE
  by_cases h : Mok n ∧ a < n
  · rw [if_pos (fits_one'.2 h), if_pos h]
  · rw [if_neg (fun h1 => h (fits_one'.1 h1)), if_neg h]
theorem of_inv {a n : Nat} {u : Int} (hu : ((invN a n : Nat) : Int) = if u < 0 then u + n else u) (h0 : 0 ≤ (if u < 0 then u + n else u)) (h1 : (if u < 0 then u + n else u) < n) (hn : Mok n) : ofP u n = (invN a n, 0) := by
  rw [show ofP u n = ((u % (n : Int)).toNat, 0) from if_pos hn]
  have : u % (n : Int) = (if u < 0 then u + n else u) := by
    by_cases h : u < 0
    · rw [if_pos h] at h0 h1 ⊢
      rw [← Int.add_emod_right, Int.emod_eq_of_lt h0 h1]
    · rw [if_neg h] at h0 h1 ⊢
      exact Int.emod_eq_of_lt h0 h1
  rw [this, ← hu, Int.toNat_natCast]


set_option maxHeartbeats 1000000 in
theorem rinv_any (a n : Nat) (w : World) (ha : a ≤ 4294967295) (hn : n ≤ 4294967295) : Calls Try.prog 20 #[.int .u32 a, .int .u32 n] w (RetNE w (invE a n)) := by
  have HM := Lib.hid (modulus_any n w)
  by_cases hm : 2 ≤ n ∧ n ≤ 2147483647
  rotate_left
  · rw [decide_eq_false hm] at HM
    have hp : invE a n = (0, 2) := by rw [invE_P]; exact if_neg (fun h => hm h.1)
    rw [hp]
    clear hp
    go_enter Try.func20, Try.ntmps20
    go_wp2_with fail
    (with_reducible refine HM.out.mono ?_)
    rintro e w' ⟨rfl, hw'⟩
    subst hw'
    go_wp2_with fail
    go_ret2
    exact .mk rfl rfl (Below.refl _ _)
  rw [decide_eq_true hm] at HM
  obtain ⟨h1, h2⟩ := hm
  by_cases ha1 : a < n
  rotate_left
  · have qa : decide ((a : Int) ≥ (n : Int)) = true := decide_eq_true (by omega)
    have hp : invE a n = (0, 2) := by rw [invE_P]; exact if_neg (fun h => ha1 h.2)
    rw [hp]
    clear hp
    go_enter Try.func20, Try.ntmps20
    go_wp2_with fail
    (with_reducible refine HM.out.mono ?_)
    rintro e w' ⟨rfl, hw'⟩
    subst hw'
    go_wp2_with fail
    go_ret2
    exact .mk rfl rfl (Below.refl _ _)
  have qa : decide ((a : Int) ≥ (n : Int)) = false := decide_eq_false (by omega)
  go_enter Try.func20, Try.ntmps20
  go_wp2_with fail
  (with_reducible refine HM.out.mono ?_)
  rintro e w' ⟨rfl, hw'⟩
  subst hw'
  go_wp2_with fail
  go_loop [6, 7, 8, 9] (EuState n a) (fun _ s _ _ => (intOf s).toNat)
  case atStart => exact ⟨n, a, 0, 1, EI.start ha1, rfl, rfl, rfl, rfl⟩
  case round =>
    obtain ⟨x, y, u, v, hei, rfl, rfl, rfl, rfl⟩ := hrel
    by_cases hy : 0 < y
    · have hstep := Lib.hid (hei.step hy)
      obtain ⟨b1, b2, b3, b4, b5⟩ := hei.bounds hy
      obtain ⟨b6, b7⟩ := quo_bounds x y
      have hle := hei.le
      have htop := hei.top
      have hsm := hei.small
      have h5 := Lib.hid b5
      have hyz : decide ((y : Int) > 0) = true := decide_eq_true (by omega)
      have hmodlt := Nat.mod_lt x hy
      clear b5 hei
      go_wp2
      go_round
      case rel => exact ⟨y, x % y, v, _, hstep.out, rfl, by rw [← h5.out], rfl, rfl⟩
      case measure =>
        have := h5.out
        simp [intOf]
        omega
    · obtain rfl : y = 0 := by omega
      have hg := hei.end_
      by_cases hx1 : x = 1
      · subst hx1
        have hi := hei.inv h1
        have hsm := hei.small
        obtain ⟨i1, i2, i3⟩ := hi
        have HO := Lib.hid (rof_any u n w (by omega) (by omega) hn)
        rw [of_inv i3 i1 i2 ⟨h1, h2⟩] at HO
        have HG := Lib.hid hg
        have HI : Hid (invE a n = (invN a n, 0)) := Lib.hid (by rw [invE_P, if_pos ⟨⟨h1, h2⟩, ha1⟩, if_pos hg.symm])
        clear hei hg i1 i2 i3
        go_wp2_with fail
        (with_reducible refine HO.out.mono ?_)
        rintro e w2 ⟨rfl, hb2⟩
        go_wp2_with fail
        go_ret2
        exact .mk (congrArg (fun p : Nat × Nat => (p.1 : Int)) HI.out).symm (congrArg (fun p : Nat × Nat => (p.2 : Int)) HI.out).symm hb2
      · have hxz : ((x : Int) != 1) = true := by simp; omega
        have hle := hei.le
        have HI : Hid (invE a n = (0, 4)) := Lib.hid (by rw [invE_P, if_pos ⟨⟨h1, h2⟩, ha1⟩, if_neg (by rw [← hg]; exact hx1)])
        clear hei hg
        go_wp2
        go_ret2
        exact .mk (congrArg (fun p : Nat × Nat => (p.1 : Int)) HI.out).symm (congrArg (fun p : Nat × Nat => (p.2 : Int)) HI.out).symm (Below.refl _ _)

theorem minv_any (a n : Nat) (w : World) : Calls Try.prog 19 #[.int .u32 a, .int .u32 n] w (RetNE w (invE a n)) := (inverse_any a n w).mono fun _ _ h => ⟨h.2, h.1⟩

/-- trial division -/
theorem pr_of_trial {n d : Nat} (hn : 2 ≤ n) (hd : n < d * d) (h : ∀ c, 2 ≤ c → c < d → ¬ c ∣ n) : Mr.Pr n := by
  obtain ⟨q, hq, c, hc⟩ := Mr.exists_prime_dvd n hn
  have hqd : d ≤ q := Nat.le_of_not_lt fun h1 => h q hq.1 h1 ⟨c, hc⟩
  have hc1 : c = 1 := by
    rcases Nat.lt_or_ge 1 c with h1 | h1
    · have h2 : d ≤ c := Nat.le_of_not_lt fun h2 => h c h1 h2 ⟨q, by rw [hc, Nat.mul_comm]⟩
      have := Nat.mul_le_mul hqd h2
      omega
    · rcases Nat.eq_zero_or_pos c with h2 | h2
      · rw [h2, Nat.mul_zero] at hc; omega
      · omega
  rw [hc1, Nat.mul_one] at hc
  rw [hc]
  exact hq
set_option maxHeartbeats 400000 in
theorem trial_any (n : Nat) (w : World) (hn : n ≤ 4294967295) : Calls Try.prog 16 #[.int .u32 n] w (RetP w (.bool (prB n))) := by
  go_enter Try.func16, Try.ntmps16
  go_wp2_with fail
  go_loop [3] (fun D => ∃ d : Nat, D = .int .u64 (d : Int) ∧ 2 ≤ d ∧ d ≤ 65536 ∧ ∀ c, 2 ≤ c → c < d → ¬ c ∣ n) (fun D => 65536 - (intOf D).toNat)
  case atStart => exact ⟨2, rfl, Nat.le_refl _, by omega, fun c h1 h2 => by omega⟩
  case round =>
    obtain ⟨d, rfl, hd2, hd6, hun⟩ := hrel
    have hdd : 0 ≤ (d : Int) * (d : Int) ∧ (d : Int) * (d : Int) ≤ 18446744065119617025 := mul_lt_int32 (by omega) (by omega)
    have HUN := Lib.hid hun
    clear hun
    by_cases hlt : d * d ≤ n
    · have q1 : decide ((d : Int) * (d : Int) ≤ (n : Int)) = true := decide_eq_true (by exact_mod_cast hlt)
      have hd5 : d < 65536 := by
        rcases Nat.lt_or_ge d 65536 with h | h
        · exact h
        · have := Nat.mul_le_mul h h
          omega
      have hd0 : ¬ d = 0 := by omega
      by_cases hdv : d ∣ n
      · have hmod : (n : Int) % (d : Int) = 0 := by obtain ⟨q, hq⟩ := hdv; rw [hq, Int.natCast_mul]; exact Int.mul_emod_right _ _
        have hmodt : (n : Int).tmod (d : Int) = 0 := by rw [Int.tmod_eq_emod_of_nonneg (by omega), hmod]
        have hnp : prB n = false := prB_no fun hp => by
          rcases hp.2 d hdv with h | h
          · omega
          · rw [h] at hlt
            have : n * 2 ≤ n * n := Nat.mul_le_mul_left n (by omega)
            omega
        have HPB := Lib.hid hnp
        clear hnp
        go_wp2
        go_ret
        exact ⟨by rw [HPB.out]; rfl, rfl⟩
      · have hr0 : 0 < n % d := Nat.pos_of_ne_zero fun h => hdv (Nat.dvd_of_mod_eq_zero h)
        obtain ⟨r, hr⟩ : ∃ r, n % d = r := ⟨_, rfl⟩
        rw [hr] at hr0
        have hmod : (n : Int) % (d : Int) = (r : Int) := by rw [← hr]; simp
        have hmodt : (n : Int).tmod (d : Int) = (r : Int) := by rw [Int.tmod_eq_emod_of_nonneg (by omega), hmod]
        have hre : ((r : Int) == 0) = false := by simp; omega
        have hrz : ¬ (r : Int) = 0 := by omega
        clear hr
        go_wp2
        go_round
        case rel => exact ⟨d + 1, by go_num, by omega, by omega, fun c h1 h2 => by
          rcases Nat.lt_or_ge c d with h | h
          · exact HUN.out c h1 h
          · rw [show c = d by omega]; exact hdv⟩
        case measure => simp only [intOf]; omega
    · have q1 : decide ((d : Int) * (d : Int) ≤ (n : Int)) = false := decide_eq_false (by exact_mod_cast hlt)
      by_cases h2 : 2 ≤ n
      · have q2 : decide ((n : Int) ≥ 2) = true := decide_eq_true (by omega)
        have hp : prB n = true := prB_yes (pr_of_trial h2 (by omega) HUN.out)
        have HPB := Lib.hid hp
        clear hp
        go_wp2
        go_ret
        exact ⟨by rw [HPB.out]; rfl, rfl⟩
      · have q2 : decide ((n : Int) ≥ 2) = false := decide_eq_false (by omega)
        have hp : prB n = false := prB_no fun h => h2 h.1
        have HPB := Lib.hid hp
        clear hp
        go_wp2
        go_ret
        exact ⟨by rw [HPB.out]; rfl, rfl⟩
end Go.Proofs.Ytigefhlgkmfgmaa
