/- The contracts of the reference's modulus and Order. -/
import Derived.Test.YtigefhlgkmfgmaaOrder
namespace Go.Proofs.Ytigefhlgkmfgmaa
open Go.RowKit
set_option linter.unusedVariables false

theorem modulus_any (n : Nat) (w : World) : Calls Try.prog 42 #[.int .u32 n] w (RetP w (.bool (decide (2 ≤ n ∧ n ≤ 2147483647)))) := by
  by_cases h1 : 2 ≤ n
  · have q1 : decide ((n : Int) ≥ 2) = true := decide_eq_true (by omega)
    by_cases h2 : n ≤ 2147483647
    · have q2 : decide ((n : Int) ≤ 2147483647) = true := decide_eq_true (by omega)
      have hB : decide (2 ≤ n ∧ n ≤ 2147483647) = true := decide_eq_true ⟨h1, h2⟩
      have HB := Lib.hid hB
      clear hB
      go_enter Try.func42, Try.ntmps42
      go_wp2
      go_ret
      exact ⟨by rw [HB.out]; rfl, rfl⟩
    · have q2 : decide ((n : Int) ≤ 2147483647) = false := decide_eq_false (by omega)
      have hB : decide (2 ≤ n ∧ n ≤ 2147483647) = false := decide_eq_false (fun h => h2 h.2)
      have HB := Lib.hid hB
      clear hB
      go_enter Try.func42, Try.ntmps42
      go_wp2
      go_ret
      exact ⟨by rw [HB.out]; rfl, rfl⟩
  · have q1 : decide ((n : Int) ≥ 2) = false := decide_eq_false (by omega)
    have hB : decide (2 ≤ n ∧ n ≤ 2147483647) = false := decide_eq_false (fun h => h1 h.1)
    have HB := Lib.hid hB
    clear hB
    go_enter Try.func42, Try.ntmps42
    go_wp2
    go_ret
    exact ⟨by rw [HB.out]; rfl, rfl⟩

set_option maxRecDepth 100000 in
set_option maxHeartbeats 2000000 in
theorem rorder_any (a n : Nat) (w : World) (hn : n ≤ 4294967295) (ha : a ≤ 4294967295) :
    Calls Try.prog 25 #[.int .u32 a, .int .u32 n] w (RetOrd w a n) := by
  have HM := Lib.hid (modulus_any n w)
  by_cases hf : 2 ≤ n ∧ n ≤ 2147483647
  rotate_left
  · rw [decide_eq_false hf] at HM
    go_enter Try.func25, Try.ntmps25
    go_wp2_with fail
    refine HM.out.mono ?_
    rintro e w' ⟨rfl, rfl⟩
    go_wp2_with fail
    go_ret2
    exact RetOrd.bad (fun h => hf ⟨h.1, h.2.1⟩) (Below.refl _ _)
  rw [decide_eq_true hf] at HM
  obtain ⟨hf2, hf3⟩ := hf
  have HP := Lib.hid (rprime_any n w hn)
  cases hpr : prB n
  · rw [hpr] at HP
    have hnp : ¬ Mr.Pr n := fun h => by rw [prB_yes h] at hpr; cases hpr
    have HNP := Lib.hid hnp
    clear hpr hnp
    go_enter Try.func25, Try.ntmps25
    go_wp2_with fail
    refine HM.out.mono ?_
    rintro e w' ⟨rfl, hw'⟩
    subst hw'
    go_wp2_with fail
    refine HP.out.mono ?_
    rintro e w' ⟨rfl, hw'⟩
    subst hw'
    go_wp2_with fail
    go_ret2
    exact RetOrd.bad (fun h => HNP.out h.2.2.2.2) (Below.refl _ _)
  rw [hpr] at HP
  have hprime := prB_true.1 hpr
  have HPR := Lib.hid hprime
  clear hpr hprime
  by_cases ha0 : a < 1
  · have q1 : decide ((a : Int) < 1) = true := decide_eq_true (by omega)
    have HA0 := Lib.hid ha0
    clear ha0
    go_enter Try.func25, Try.ntmps25
    go_wp2_with fail
    refine HM.out.mono ?_
    rintro e w' ⟨rfl, hw'⟩
    subst hw'
    go_wp2_with fail
    refine HP.out.mono ?_
    rintro e w' ⟨rfl, hw'⟩
    subst hw'
    go_wp2_with fail
    go_ret2
    exact RetOrd.bad (fun h => by have := h.2.2.1; have := HA0.out; omega) (Below.refl _ _)
  have q1 : decide ((a : Int) < 1) = false := decide_eq_false (by omega)
  by_cases hf1 : n ≤ a
  · have q2 : decide ((a : Int) ≥ (n : Int)) = true := decide_eq_true (by omega)
    go_enter Try.func25, Try.ntmps25
    go_wp2_with fail
    refine HM.out.mono ?_
    rintro e w' ⟨rfl, hw'⟩
    subst hw'
    go_wp2_with fail
    refine HP.out.mono ?_
    rintro e w' ⟨rfl, hw'⟩
    subst hw'
    go_wp2_with fail
    go_ret2
    exact RetOrd.bad (fun h => by have := h.2.2.2.1; omega) (Below.refl _ _)
  have q2 : decide ((a : Int) ≥ (n : Int)) = false := decide_eq_false (by omega)
  have hf1 : a < n := by omega
  obtain ⟨N, hN⟩ : ∃ N, n - 1 = N := ⟨_, rfl⟩
  have hNi : (n : Int) - 1 = (N : Int) := by omega
  have HN := Lib.hid hN
  go_enter Try.func25, Try.ntmps25
  go_wp2_with fail
  refine HM.out.mono ?_
  rintro e w' ⟨rfl, hw'⟩
  subst hw'
  go_wp2_with fail
  refine HP.out.mono ?_
  rintro e w' ⟨rfl, hw'⟩
  subst hw'
  go_wp2_with fail
  refine (rfactors_any N _ (by omega)).mono ?_
  rintro e w3 ⟨A, c, E, l, rfl, hlc, hpw, hfr, hb3⟩
  have hz3 := hb3.size
  rcases hfr with ⟨h0, _⟩ | ⟨hN0, rfl, hfac, hl40⟩
  · omega
  have HPW := Lib.hid hpw
  have HFAC := Lib.hid hfac
  clear hpw hfac HM HP
  go_wp2_with fail
  have hU0 : Mr.U n a N := by
    rw [← HN.out]
    exact Mr.flt HPR.out fun h => by have := Nat.le_of_dvd (by omega) h; omega
  have HU0 := Lib.hid hU0
  clear hU0
  go_loop [6, 9] (fun O I => ∃ i m : Nat, I = .int .i64 (i : Int) ∧ i ≤ l.length ∧ O = .int .u32 (m : Int) ∧ OI n a N l i m) (fun _ I => l.length - (intOf I).toNat)
  case atStart => exact ⟨0, N, rfl, Nat.zero_le _, rfl, ⟨hN0, Nat.dvd_refl N, HU0.out, fun j x h => absurd h (Nat.not_lt_zero j)⟩⟩
  case round =>
    obtain ⟨i, m, rfl, hil, rfl, hoi⟩ := hrel
    have HOI := Lib.hid hoi
    clear hoi
    by_cases hin : i < l.length
    · obtain ⟨b, rfl, hb1, hb2', hcell⟩ := HPW.out (by intro e; rw [e] at hin; exact absurd hin (Nat.not_lt_zero i))
      obtain ⟨x, hx⟩ : ∃ x, l[i]? = some x := ⟨l[i], List.getElem?_eq_getElem hin⟩
      obtain ⟨k1, k2⟩ := hcell i x hx
      obtain ⟨hqp, hqN⟩ := fac_prime HFAC.out (List.mem_of_getElem? hx)
      have hq2 := hqp.1
      have hqle := Nat.le_of_dvd hN0 hqN
      have HXX := Lib.hid hx
      clear hcell hx hqp hqN
      obtain ⟨q, e⟩ := x
      simp only at k1 k2 hq2 hqle
      go_wp2_with fail
      go_loop [6] (fun O => ∃ m : Nat, O = .int .u32 (m : Int) ∧ OI n a N l i m) (fun O => (intOf O).toNat)
      case atStart => exact ⟨m, rfl, HOI.out⟩
      case round =>
        clear HOI
        obtain ⟨m, rfl, hoi⟩ := hrel
        have hmp := hoi.1
        have hmN := Nat.le_of_dvd hN0 hoi.2.1
        have HOI := Lib.hid hoi
        have hq0 : ¬ q = 0 := by omega
        clear hoi
        by_cases hd : q ∣ m
        · obtain ⟨c', hc'⟩ := hd
          have hmod : (m : Int) % (q : Int) = 0 := by rw [hc', Int.natCast_mul]; exact Int.mul_emod_right _ _
          have hmodt : (m : Int).tmod (q : Int) = 0 := by rw [Int.tmod_eq_emod_of_nonneg (by omega), hmod]
          have hquo : (m : Int) / (q : Int) = (c' : Int) := by rw [hc', Int.natCast_mul]; exact Int.mul_ediv_cancel_left _ (by omega)
          have hquot : (m : Int).tdiv (q : Int) = (c' : Int) := by rw [Int.tdiv_eq_ediv_of_nonneg (by omega), hquo]
          have hcp : 0 < c' := Nat.pos_of_ne_zero fun h => by rw [h, Nat.mul_zero] at hc'; omega
          have hcm : c' < m := by have := Nat.mul_le_mul_right c' hq2; omega
          have HC := Lib.hid hc'
          clear hc'
          have hl2 : ∀ x ∈ l, 2 ≤ x.1 := fun x hx => (fac_prime HFAC.out hx).1.1
          obtain ⟨pv, hpv⟩ : ∃ pv, a ^ c' % n = pv := ⟨_, rfl⟩
          have hpvn : pv < n := by rw [← hpv]; exact Nat.mod_lt _ (by omega)
          have HPV := Lib.hid hpv
          have HPOW := Lib.hid (rpower_any a c' n w3 ha (by omega) hf2 hn)
          rw [hpv] at HPOW
          clear hpv
          go_wp2_with fail
          refine HPOW.out.mono ?_
          rintro e6 w6 ⟨rfl, hw6⟩
          subst hw6
          by_cases hu : pv = 1
          · have q2 : ((pv : Int) == 1) = true := by subst hu; rfl
            have HU := Lib.hid hu
            clear hu
            go_wp2
            go_round
            case rel => exact ⟨c', rfl, HOI.out.down HC.out hcp hl2 (by unfold Mr.U; rw [HPV.out, HU.out, Nat.mod_eq_of_lt hf2])⟩
            case measure => simp only [intOf]; omega
          · have q2 : ((pv : Int) == 1) = false := by simp; omega
            have hnx : ¬ (q ∣ m ∧ Mr.U n a (m / q)) := fun h => hu (by
              have h1 := h.2
              rw [HC.out, Nat.mul_div_cancel_left _ (by omega)] at h1
              unfold Mr.U at h1
              rw [HPV.out, Nat.mod_eq_of_lt hf2] at h1
              exact h1)
            have HNX := Lib.hid (HOI.out.next HXX.out hnx)
            clear hu hnx
            go_wp2
            go_round
            case rel => exact ⟨i + 1, m, by go_num, hin, rfl, HNX.out⟩
            case measure => simp only [intOf]; omega
        · have hr0 : 0 < m % q := Nat.pos_of_ne_zero fun h => hd (Nat.dvd_of_mod_eq_zero h)
          obtain ⟨r, hr⟩ : ∃ r, m % q = r := ⟨_, rfl⟩
          rw [hr] at hr0
          have hmod : (m : Int) % (q : Int) = (r : Int) := by rw [← hr]; simp
          have hmodt : (m : Int).tmod (q : Int) = (r : Int) := by rw [Int.tmod_eq_emod_of_nonneg (by omega), hmod]
          have hre : ((r : Int) == 0) = false := by simp; omega
          have hrz : ¬ (r : Int) = 0 := by omega
          have HNX := Lib.hid (HOI.out.next HXX.out fun h => hd h.1)
          clear hr
          go_wp2
          go_round
          case rel => exact ⟨i + 1, m, by go_num, hin, rfl, HNX.out⟩
          case measure => simp only [intOf]; omega
    · obtain rfl : i = l.length := by omega
      have hod := HOI.out.ordr HFAC.out hN0
      have HOD := Lib.hid hod
      clear hod
      go_wp2
      go_ret2
      exact ⟨m, 0, rfl, .inr ⟨⟨hf2, hf3, by omega, hf1, HPR.out⟩, rfl, HOD.out⟩, hb3⟩
end Go.Proofs.Ytigefhlgkmfgmaa
