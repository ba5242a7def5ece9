/- The walk of the law ModularInverts: it returns true. -/
import Derived.Test.YtigefhlgkmfgmaaShown
import Derived.Test.YtigefhlgkmfgmaaArgs
namespace Go.Proofs.Ytigefhlgkmfgmaa
open Go.RowKit
set_option linter.unusedVariables false

theorem val_any (x : Nat) (w : World) (hx : x ≤ 4294967295) : Calls Try.prog 21 #[.int .u32 x, .int .i64 0] w (fun e w' => e = .returned (.tuple #[.int .u64 (x : Int), .bool true]) ∧ w = w') := by
  go_enter Try.func21, Try.ntmps21
  go_wp2
  go_ret2
  exact ⟨rfl, rfl⟩
theorem of_bal {a n : Nat} (hn : Mok n) (ha : a < n) : ofP (if n < 2 * a then (a : Int) - n else a) n = (a, 0) := by
  rw [show ofP _ n = _ from if_pos hn]
  have : (if n < 2 * a then (a : Int) - n else a) % (n : Int) = a := by
    split
    · rw [Int.sub_emod_right, Int.emod_eq_of_lt (by omega) (by omega)]
    · rw [Int.emod_eq_of_lt (by omega) (by omega)]
  rw [this, Int.toNat_natCast]

set_option maxRecDepth 100000 in
set_option maxHeartbeats 1000000 in
/-- Euclid's loop and what stands behind it -/
theorem modularInverts_any (a n : Nat) (w : World) (ha : a ≤ 4294967295) (hn : n ≤ 4294967295) : Calls Try.prog 7 #[.int .u32 a, .int .u32 n] w (RetV w (.bool true)) := by
  have H1 := Lib.hid (minv_any a n w)
  by_cases hok : Mok n ∧ a < n
  rotate_left
  · rw [show invE a n = (0, 2) by rw [invE_P]; exact if_neg hok] at H1
    have hc : n < 2 ∨ (¬ n < 2 ∧ 2147483647 < n) ∨ (¬ n < 2 ∧ ¬ 2147483647 < n ∧ n ≤ a) := by unfold Mok at hok; omega
    clear hok
    rcases hc with h1 | ⟨h1, h2⟩ | ⟨h1, h2, h3⟩
    · have q1 : decide ((n : Int) < 2) = true := decide_eq_true (by omega)
      go_enter Try.func7, Try.ntmps7
      go_wp2_with fail
      (with_reducible refine H1.out.mono ?_)
      rintro e w1 ⟨rfl, hb1⟩
      go_wp2_with fail
      (with_reducible refine (shown_any w1).mono ?_)
      rintro e w5 ⟨rfl, hb5⟩
      go_wp2_with fail
      go_ret
      exact ⟨rfl, hb1.trans (hb5.mono hb1.size)⟩
    · have q1 : decide ((n : Int) < 2) = false := decide_eq_false (by omega)
      have q2 : decide ((n : Int) > 2147483647) = true := decide_eq_true (by omega)
      go_enter Try.func7, Try.ntmps7
      go_wp2_with fail
      (with_reducible refine H1.out.mono ?_)
      rintro e w1 ⟨rfl, hb1⟩
      go_wp2_with fail
      (with_reducible refine (shown_any w1).mono ?_)
      rintro e w5 ⟨rfl, hb5⟩
      go_wp2_with fail
      go_ret
      exact ⟨rfl, hb1.trans (hb5.mono hb1.size)⟩
    · have q1 : decide ((n : Int) < 2) = false := decide_eq_false (by omega)
      have q2 : decide ((n : Int) > 2147483647) = false := decide_eq_false (by omega)
      have q3 : decide ((a : Int) ≥ (n : Int)) = true := decide_eq_true (by omega)
      go_enter Try.func7, Try.ntmps7
      go_wp2_with fail
      (with_reducible refine H1.out.mono ?_)
      rintro e w1 ⟨rfl, hb1⟩
      go_wp2_with fail
      (with_reducible refine (shown_any w1).mono ?_)
      rintro e w5 ⟨rfl, hb5⟩
      go_wp2_with fail
      go_ret
      exact ⟨rfl, hb1.trans (hb5.mono hb1.size)⟩
  obtain ⟨bv, hbv⟩ : ∃ v : Int, (if n < 2 * a then (a : Int) - n else a) = v := ⟨_, rfl⟩
  have H2 := Lib.hid (fun V => mbal_any a n V ha hn)
  rw [show balP a n = (bv, 0) by rw [← hbv]; exact if_pos hok] at H2
  obtain ⟨⟨hn2, hn3⟩, han⟩ := hok
  have hv1 : 2 * bv ≤ (n : Int) := by rw [← hbv]; split <;> omega
  have hv2 : -(n : Int) < 2 * bv := by rw [← hbv]; split <;> omega
  have H3 := Lib.hid (fun V => mof_any bv n V (by omega) (by omega) hn)
  rw [show ofP bv n = (a, 0) by rw [← hbv]; exact of_bal ⟨hn2, hn3⟩ han] at H3
  have HV := Lib.hid (fun V => val_any a V ha)
  have q1 : decide ((n : Int) < 2) = false := decide_eq_false (by omega)
  have q2 : decide ((n : Int) > 2147483647) = false := decide_eq_false (by omega)
  have q3 : decide ((a : Int) ≥ (n : Int)) = false := decide_eq_false (by omega)
  have q4 : decide (2 * bv ≤ (n : Int)) = true := decide_eq_true hv1
  have q5 : decide (2 * bv > -(n : Int)) = true := decide_eq_true hv2
  obtain ⟨g, hg⟩ : ∃ g, Nat.gcd n a = g := ⟨_, rfl⟩
  have hgn : g ≤ n := by rw [← hg]; exact Nat.le_of_dvd (by omega) (Nat.gcd_dvd_left _ _)
  have HG := Lib.hid hg
  clear hbv
  by_cases hg1 : g = 1
  · obtain ⟨i1, i2⟩ := invN_spec (a := a) (m := n) han hn2 (hg.trans hg1)
    rw [show invE a n = (invN a n, 0) by rw [invE_P, if_pos ⟨⟨hn2, hn3⟩, han⟩, if_pos (hg.trans hg1)]] at H1
    obtain ⟨iv, hiv⟩ : ∃ iv, invN a n = iv := ⟨_, rfl⟩
    rw [hiv] at H1 i1 i2
    have q6 : decide ((iv : Int) ≥ (n : Int)) = false := decide_eq_false (by omega)
    have m1 := mul_lt_int32 (show iv ≤ 4294967295 by omega) ha
    have q7 : (iv : Int) * (a : Int) % (n : Int) = 1 := by
      have : ((iv * a % n : Nat) : Int) = 1 := by rw [i2, Nat.mod_eq_of_lt (by omega)]; rfl
      rw [← this]; simp
    have HG1 := Lib.hid (hg.trans hg1)
    clear hg hg1 hiv i2
    go_enter Try.func7, Try.ntmps7
    go_wp2_with fail
    (with_reducible refine H1.out.mono ?_)
    rintro e w1 ⟨rfl, hb1⟩
    go_wp2_with fail
    go_loop [7, 8] (fun B R => ∃ b r : Nat, B = .int .u64 (b : Int) ∧ R = .int .u64 (r : Int) ∧ b ≤ 4294967295 ∧ r ≤ 4294967295 ∧ Nat.gcd r b = Nat.gcd n a) (fun B _ => (intOf B).toNat)
    case atStart => exact ⟨a, n, rfl, rfl, ha, hn, rfl⟩
    case round =>
      obtain ⟨b, r, rfl, rfl, hb, hr, hgc⟩ := hrel
      have HGC := Lib.hid hgc
      clear hgc
      by_cases hb0 : b = 0
      · have p1 : decide ((b : Int) > 0) = false := decide_eq_false (by omega)
        have hr1 : r = 1 := by rw [← HG1.out, ← HGC.out, hb0, Nat.gcd_zero_right]
        subst hr1
        go_wp2_with fail
        (with_reducible refine (H2.out w1).mono ?_)
        rintro e w2 ⟨rfl, hb2'⟩
        have hb2 := hb1.trans (hb2'.mono hb1.size)
        go_wp2_with fail
        (with_reducible refine (H3.out w2).mono ?_)
        rintro e w3 ⟨rfl, hb3'⟩
        have hb3 := hb2.trans (hb3'.mono hb2.size)
        go_wp2_with fail
        (with_reducible refine (HV.out w3).mono ?_)
        rintro e w4 ⟨rfl, hw4⟩
        subst hw4
        go_wp2_with fail
        (with_reducible refine (shown_any w3).mono ?_)
        rintro e w5 ⟨rfl, hb5⟩
        go_wp2_with fail
        go_ret
        exact ⟨rfl, hb3.trans (hb5.mono hb3.size)⟩
      · have p1 : decide ((b : Int) > 0) = true := decide_eq_true (by omega)
        obtain ⟨s, hs⟩ : ∃ s, r % b = s := ⟨_, rfl⟩
        have hlt : s < b := by rw [← hs]; exact Nat.mod_lt _ (by omega)
        have hmod : (r : Int) % (b : Int) = (s : Int) := by rw [← hs]; simp
        have hmodt : (r : Int).tmod (b : Int) = (s : Int) := by rw [Int.tmod_eq_emod_of_nonneg (by omega), hmod]
        have hgc : Nat.gcd b s = Nat.gcd n a := by rw [← HGC.out, ← hs, Nat.gcd_comm b, ← Nat.gcd_rec, Nat.gcd_comm]
        have HGC2 := Lib.hid hgc
        clear hs hgc
        go_wp2
        go_round
        case rel => exact ⟨s, b, rfl, rfl, by omega, hb, HGC2.out⟩
        case measure => simp only [intOf]; omega
  · rw [show invE a n = (0, 4) by rw [invE_P, if_pos ⟨⟨hn2, hn3⟩, han⟩, if_neg (by rw [hg]; exact hg1)]] at H1
    have HG1 := Lib.hid (show ¬ Nat.gcd n a = 1 by rw [hg]; exact hg1)
    clear hg hg1
    go_enter Try.func7, Try.ntmps7
    go_wp2_with fail
    (with_reducible refine H1.out.mono ?_)
    rintro e w1 ⟨rfl, hb1⟩
    go_wp2_with fail
    go_loop [7, 8] (fun B R => ∃ b r : Nat, B = .int .u64 (b : Int) ∧ R = .int .u64 (r : Int) ∧ b ≤ 4294967295 ∧ r ≤ 4294967295 ∧ Nat.gcd r b = Nat.gcd n a) (fun B _ => (intOf B).toNat)
    case atStart => exact ⟨a, n, rfl, rfl, ha, hn, rfl⟩
    case round =>
      obtain ⟨b, r, rfl, rfl, hb, hr, hgc⟩ := hrel
      have HGC := Lib.hid hgc
      clear hgc
      by_cases hb0 : b = 0
      · have p1 : decide ((b : Int) > 0) = false := decide_eq_false (by omega)
        have hr1 : ¬ r = 1 := fun h => HG1.out (by rw [← HGC.out, hb0, Nat.gcd_zero_right]; exact h)
        have p2 : ((r : Int) == 1) = false := by simp; omega
        go_wp2_with fail
        (with_reducible refine (H2.out w1).mono ?_)
        rintro e w2 ⟨rfl, hb2'⟩
        have hb2 := hb1.trans (hb2'.mono hb1.size)
        go_wp2_with fail
        (with_reducible refine (H3.out w2).mono ?_)
        rintro e w3 ⟨rfl, hb3'⟩
        have hb3 := hb2.trans (hb3'.mono hb2.size)
        go_wp2_with fail
        (with_reducible refine (HV.out w3).mono ?_)
        rintro e w4 ⟨rfl, hw4⟩
        subst hw4
        go_wp2_with fail
        (with_reducible refine (shown_any w3).mono ?_)
        rintro e w5 ⟨rfl, hb5⟩
        go_wp2_with fail
        go_ret
        exact ⟨rfl, hb3.trans (hb5.mono hb3.size)⟩
      · have p1 : decide ((b : Int) > 0) = true := decide_eq_true (by omega)
        obtain ⟨s, hs⟩ : ∃ s, r % b = s := ⟨_, rfl⟩
        have hlt : s < b := by rw [← hs]; exact Nat.mod_lt _ (by omega)
        have hmod : (r : Int) % (b : Int) = (s : Int) := by rw [← hs]; simp
        have hmodt : (r : Int).tmod (b : Int) = (s : Int) := by rw [Int.tmod_eq_emod_of_nonneg (by omega), hmod]
        have hgc : Nat.gcd b s = Nat.gcd n a := by rw [← HGC.out, ← hs, Nat.gcd_comm b, ← Nat.gcd_rec, Nat.gcd_comm]
        have HGC2 := Lib.hid hgc
        clear hs hgc
        go_wp2
        go_round
        case rel => exact ⟨s, b, rfl, rfl, by omega, hb, HGC2.out⟩
        case measure => simp only [intOf]; omega
end Go.Proofs.Ytigefhlgkmfgmaa
