/- The law PolysCompares of layer 25. -/
import Derived.Test.YtmidpholmgmdpaaCw25
namespace Go.Proofs.Ytmidpholmgmdpaa
open Go.RowKit
set_option linter.unusedVariables false

set_option maxRecDepth 100000 in
set_option maxHeartbeats 40000000 in
theorem polysCompares_any (p : Nat) (c : Int) (w : World) (hp : p ≤ 4294967295) (hc : -9223372036854775808 ≤ c ∧ c ≤ 9223372036854775807) :
    Calls Try.prog 8 #[.int .u32 p, .int .i64 c] w (RetV w (.bool true)) := by
  have HEQ := Lib.hid (fun (W : World) => equal25_any p c W hp hc)
  have HLE := Lib.hid (fun (W : World) => less25_any p c W hp hc)
  have HPR := Lib.hid (fun (W : World) => prime25_any p W hp)
  rcases fieldE_cases p with ⟨hE, h1, h2, hpr⟩ | ⟨hE, h1⟩ | ⟨hE, h1, h2⟩ | ⟨hE, h1, h2, hpr⟩ | ⟨hE, h1, h2, hpr⟩ | ⟨hE, h1, h2, hpr⟩
  · rw [hpr] at HPR
    have a1 : decide ((p : Int) < 3) = false := decide_eq_false (by omega)
    have a1' : decide (p < 3) = false := decide_eq_false (by omega)
    have a2 : decide ((p : Int) > 256) = false := decide_eq_false (by omega)
    have a2' : decide (256 < p) = false := decide_eq_false (by omega)
    have HE := Lib.hid hE
    obtain ⟨_, _, hodd, _⟩ := field_ok hE
    have HBAL := Lib.hid (fun (W : World) => rbalanced25_any p c W h1 (by omega) hodd)
    clear hE hpr
    go_enter Try.func8, Try.ntmps8
    go_wp2_with fail
    refine (HEQ.out _).mono ?_
    rintro e w1 ⟨hb1, hh1⟩
    have HB1 := Lib.hid hb1
    clear hb1
    rcases hh1 with ⟨h, _⟩ | ⟨_, hnb, rfl⟩ | ⟨_, hbc, A1, c1, k1, f1, rfl, hth1, hsq1⟩
    · exact absurd HE.out h
    · have hbf : balB p c = false := by simpa using hnb
      rw [hbf] at HBAL
      clear hnb
      go_wp2_with fail
      refine (HLE.out _).mono ?_
      rintro e w2 ⟨hb2, hh2⟩
      have HB2 := Lib.hid (HB1.out.trans (hb2.mono HB1.out.size))
      have HA2 := Lib.hid hb2
      clear hb2
      rcases hh2 with ⟨h, _⟩ | ⟨_, hnc, rfl⟩ | ⟨_, hcc, A2, c2, k2, f2, rfl, hth2, hsq2⟩
      · exact absurd HE.out h
      · have hcase : c < 0 ∨ (0 ≤ c ∧ (p : Int) < c) := by omega
        rcases hcase with q1 | ⟨q0, q1⟩
        · have b1 : decide (c ≥ 0) = false := decide_eq_false (by omega)
          have b1' : decide (0 ≤ c) = false := decide_eq_false (by omega)
          go_wp2_with (first | (go_at_call 29; refine (HPR.out _).mono ?_; rintro e w' ⟨rfl, hw⟩; subst hw) | (go_at_call 26; refine (HBAL.out _).mono ?_; rintro e w' ⟨rfl, hw⟩; subst hw))
          go_loop [9] (fun I => ∃ i : Nat, I = .int .i64 (i : Int) ∧ i ≤ p) (fun I => p - (intOf I).toNat)
          case atStart => exact ⟨0, rfl, Nat.zero_le _⟩
          case round =>
            obtain ⟨i, rfl, hip⟩ := hrel
            by_cases hin : i < p
            · have e3 : decide ((i : Int) < (p : Int)) = true := decide_eq_true (by omega)
              have i0 : 0 ≤ (i : Int) := by omega
              have hp0 : ¬ p = 0 := by omega
              by_cases hzz : (wrap64 (c - (i : Int))).tmod (p : Int) = 0
              · have dz : ((wrap64 (c - (i : Int))).tmod (p : Int) == 0) = true := by rw [beq_iff_eq]; exact hzz
                have HZ := Lib.hid hzz
                clear hzz
                by_cases hcx : (i : Int) < c
                · have dc : decide ((i : Int) < c) = true := decide_eq_true hcx
                  go_wp2_with fail
                  all_goals
                    go_round
                    case rel => exact ⟨i + 1, by go_num, hin⟩
                    case measure => simp only [intOf]; omega
                · have dc : decide ((i : Int) < c) = false := decide_eq_false hcx
                  go_wp2_with fail
                  all_goals
                    go_round
                    case rel => exact ⟨i + 1, by go_num, hin⟩
                    case measure => simp only [intOf]; omega
              · have dz : ((wrap64 (c - (i : Int))).tmod (p : Int) == 0) = false := by rw [beq_eq_false_iff_ne]; exact hzz
                have HZ := Lib.hid hzz
                clear hzz
                by_cases hcx : (i : Int) < c
                · have dc : decide ((i : Int) < c) = true := decide_eq_true hcx
                  go_wp2_with fail
                  all_goals
                    go_round
                    case rel => exact ⟨i + 1, by go_num, hin⟩
                    case measure => simp only [intOf]; omega
                · have dc : decide ((i : Int) < c) = false := decide_eq_false hcx
                  go_wp2_with fail
                  all_goals
                    go_round
                    case rel => exact ⟨i + 1, by go_num, hin⟩
                    case measure => simp only [intOf]; omega
            · obtain rfl : p = i := by omega
              have e3 : decide ((p : Int) < (p : Int)) = false := decide_eq_false (by omega)
              go_wp2_with fail
              refine (awake25_any _).mono ?_
              rintro e w4 ⟨rfl, hb4⟩
              go_wp2_with fail
              go_ret
              exact ⟨rfl, HB2.out.trans (hb4.mono HB2.out.size)⟩
        · have b1 : decide (c ≥ 0) = true := decide_eq_true (by omega)
          have b1' : decide (0 ≤ c) = true := decide_eq_true (by omega)
          have b2 : decide (c ≤ (p : Int)) = false := decide_eq_false (by omega)
          go_wp2_with (first | (go_at_call 29; refine (HPR.out _).mono ?_; rintro e w' ⟨rfl, hw⟩; subst hw) | (go_at_call 26; refine (HBAL.out _).mono ?_; rintro e w' ⟨rfl, hw⟩; subst hw))
          go_loop [9] (fun I => ∃ i : Nat, I = .int .i64 (i : Int) ∧ i ≤ p) (fun I => p - (intOf I).toNat)
          case atStart => exact ⟨0, rfl, Nat.zero_le _⟩
          case round =>
            obtain ⟨i, rfl, hip⟩ := hrel
            by_cases hin : i < p
            · have e3 : decide ((i : Int) < (p : Int)) = true := decide_eq_true (by omega)
              have i0 : 0 ≤ (i : Int) := by omega
              have hp0 : ¬ p = 0 := by omega
              by_cases hzz : (wrap64 (c - (i : Int))).tmod (p : Int) = 0
              · have dz : ((wrap64 (c - (i : Int))).tmod (p : Int) == 0) = true := by rw [beq_iff_eq]; exact hzz
                have HZ := Lib.hid hzz
                clear hzz
                by_cases hcx : (i : Int) < c
                · have dc : decide ((i : Int) < c) = true := decide_eq_true hcx
                  go_wp2_with fail
                  all_goals
                    go_round
                    case rel => exact ⟨i + 1, by go_num, hin⟩
                    case measure => simp only [intOf]; omega
                · have dc : decide ((i : Int) < c) = false := decide_eq_false hcx
                  go_wp2_with fail
                  all_goals
                    go_round
                    case rel => exact ⟨i + 1, by go_num, hin⟩
                    case measure => simp only [intOf]; omega
              · have dz : ((wrap64 (c - (i : Int))).tmod (p : Int) == 0) = false := by rw [beq_eq_false_iff_ne]; exact hzz
                have HZ := Lib.hid hzz
                clear hzz
                by_cases hcx : (i : Int) < c
                · have dc : decide ((i : Int) < c) = true := decide_eq_true hcx
                  go_wp2_with fail
                  all_goals
                    go_round
                    case rel => exact ⟨i + 1, by go_num, hin⟩
                    case measure => simp only [intOf]; omega
                · have dc : decide ((i : Int) < c) = false := decide_eq_false hcx
                  go_wp2_with fail
                  all_goals
                    go_round
                    case rel => exact ⟨i + 1, by go_num, hin⟩
                    case measure => simp only [intOf]; omega
            · obtain rfl : p = i := by omega
              have e3 : decide ((p : Int) < (p : Int)) = false := decide_eq_false (by omega)
              go_wp2_with fail
              refine (awake25_any _).mono ?_
              rintro e w4 ⟨rfl, hb4⟩
              go_wp2_with fail
              go_ret
              exact ⟨rfl, HB2.out.trans (hb4.mono HB2.out.size)⟩
      · obtain ⟨q0, q1⟩ := hcc
        have b1 : decide (c ≥ 0) = true := decide_eq_true (by omega)
        have b1' : decide (0 ≤ c) = true := decide_eq_true (by omega)
        have b2 : decide (c ≤ (p : Int)) = true := decide_eq_true (by omega)
        have hv2 := cp_vals HE.out hth2 (stF_tb h1)
        have HV2 := Lib.hid (fun (i : Nat) (hi : i < p) => hv2.2 i hi)
        have hk2 := hv2.1
        have HS2 := Lib.hid hsq2
        have HBD2 := Lib.hid (fun j => balF_bd (L := k2) (f := f2) (show p ≤ 2147483647 by omega) hodd j)
        have dk2 : decide ((k2 : Int) > (p : Int)) = false := decide_eq_false (by omega)
        have dk2' : decide (p < k2) = false := decide_eq_false (by omega)
        clear hth2 hsq2 hv2
        go_wp2_with (first | (go_at_call 29; refine (HPR.out _).mono ?_; rintro e w' ⟨rfl, hw⟩; subst hw) | (go_at_call 26; refine (HBAL.out _).mono ?_; rintro e w' ⟨rfl, hw⟩; subst hw))
        go_loop [9] (fun I => ∃ i : Nat, I = .int .i64 (i : Int) ∧ i ≤ p) (fun I => p - (intOf I).toNat)
        case atStart => exact ⟨0, rfl, Nat.zero_le _⟩
        case round =>
          obtain ⟨i, rfl, hip⟩ := hrel
          by_cases hin : i < p
          · have e3 : decide ((i : Int) < (p : Int)) = true := decide_eq_true (by omega)
            have i0 : 0 ≤ (i : Int) := by omega
            have hp0 : ¬ p = 0 := by omega
            have hv2 := HV2.out i hin
            obtain ⟨x2, hx2⟩ : ∃ x, valZ p (balF p k2 f2) k2 (i : Int) = x := ⟨_, rfl⟩
            rw [hx2] at hv2
            have HR2 : Hid (∀ W : World, w2 = W → Calls Try.prog 15 #[.int .u32 p, .slice A2 k2 c2, .int .i64 (i : Int)] W (RetP W (.int .i64 x2))) := Lib.hid fun W hW => hW ▸ hx2 ▸ rvalue25_any p k2 c2 _ A2 (balF p k2 f2) (i : Int) w2 h1 (by omega) hodd (HS2.out.wide (Nat.zero_le _) (Nat.le_refl _)) (Nat.le_refl _) (by omega) HBD2.out (by omega)
            by_cases hzz : (c - (i : Int)).tmod (p : Int) = 0
            · have dz : ((c - (i : Int)).tmod (p : Int) == 0) = true := by rw [beq_iff_eq]; exact hzz
              have HZ := Lib.hid hzz
              clear hzz
              by_cases hcx : (i : Int) < c
              · have dc : decide ((i : Int) < c) = true := decide_eq_true hcx
                rw [show stF 0 c.toNat i = 1 from by unfold stF; rw [if_pos (by omega)]] at hv2
                subst hv2
                clear hx2
                go_wp2_with (first | (go_at_call 15; ((with_reducible refine (HR2.out _ rfl).mono ?_); rintro e w' ⟨rfl, hw⟩); subst hw))
                all_goals
                  go_round
                  case rel => exact ⟨i + 1, by go_num, hin⟩
                  case measure => simp only [intOf]; omega
              · have dc : decide ((i : Int) < c) = false := decide_eq_false hcx
                rw [show stF 0 c.toNat i = 0 from by unfold stF; rw [if_neg (by omega)]] at hv2
                subst hv2
                clear hx2
                go_wp2_with (first | (go_at_call 15; ((with_reducible refine (HR2.out _ rfl).mono ?_); rintro e w' ⟨rfl, hw⟩); subst hw))
                all_goals
                  go_round
                  case rel => exact ⟨i + 1, by go_num, hin⟩
                  case measure => simp only [intOf]; omega
            · have dz : ((c - (i : Int)).tmod (p : Int) == 0) = false := by rw [beq_eq_false_iff_ne]; exact hzz
              have HZ := Lib.hid hzz
              clear hzz
              by_cases hcx : (i : Int) < c
              · have dc : decide ((i : Int) < c) = true := decide_eq_true hcx
                rw [show stF 0 c.toNat i = 1 from by unfold stF; rw [if_pos (by omega)]] at hv2
                subst hv2
                clear hx2
                go_wp2_with (first | (go_at_call 15; ((with_reducible refine (HR2.out _ rfl).mono ?_); rintro e w' ⟨rfl, hw⟩); subst hw))
                all_goals
                  go_round
                  case rel => exact ⟨i + 1, by go_num, hin⟩
                  case measure => simp only [intOf]; omega
              · have dc : decide ((i : Int) < c) = false := decide_eq_false hcx
                rw [show stF 0 c.toNat i = 0 from by unfold stF; rw [if_neg (by omega)]] at hv2
                subst hv2
                clear hx2
                go_wp2_with (first | (go_at_call 15; ((with_reducible refine (HR2.out _ rfl).mono ?_); rintro e w' ⟨rfl, hw⟩); subst hw))
                all_goals
                  go_round
                  case rel => exact ⟨i + 1, by go_num, hin⟩
                  case measure => simp only [intOf]; omega
          · obtain rfl : p = i := by omega
            have e3 : decide ((p : Int) < (p : Int)) = false := decide_eq_false (by omega)
            go_wp2_with fail
            refine (awake25_any _).mono ?_
            rintro e w4 ⟨rfl, hb4⟩
            go_wp2_with fail
            go_ret
            exact ⟨rfl, HB2.out.trans (hb4.mono HB2.out.size)⟩
    · rw [hbc] at HBAL
      have hv1 := cp_vals HE.out hth1 (stF_tb h1)
      have HV1 := Lib.hid (fun (i : Nat) (hi : i < p) => (hv1.2 i hi).trans (eq_want h1 hodd hbc hi))
      have hk1 := hv1.1
      have HS1 := Lib.hid hsq1
      have hcb := balB_b (t := p) (by omega) hbc
      have HBD1 := Lib.hid (fun j => balF_bd (L := k1) (f := f1) (show p ≤ 2147483647 by omega) hodd j)
      have dk1 : decide ((k1 : Int) > (p : Int)) = false := decide_eq_false (by omega)
      have dk1' : decide (p < k1) = false := decide_eq_false (by omega)
      clear hth1 hsq1 hv1
      go_wp2_with fail
      refine (HLE.out _).mono ?_
      rintro e w2 ⟨hb2, hh2⟩
      have HB2 := Lib.hid (HB1.out.trans (hb2.mono HB1.out.size))
      have HA2 := Lib.hid hb2
      clear hb2
      rcases hh2 with ⟨h, _⟩ | ⟨_, hnc, rfl⟩ | ⟨_, hcc, A2, c2, k2, f2, rfl, hth2, hsq2⟩
      · exact absurd HE.out h
      · have hcase : c < 0 ∨ (0 ≤ c ∧ (p : Int) < c) := by omega
        rcases hcase with q1 | ⟨q0, q1⟩
        · have b1 : decide (c ≥ 0) = false := decide_eq_false (by omega)
          have b1' : decide (0 ≤ c) = false := decide_eq_false (by omega)
          go_wp2_with (first | (go_at_call 29; refine (HPR.out _).mono ?_; rintro e w' ⟨rfl, hw⟩; subst hw) | (go_at_call 26; refine (HBAL.out _).mono ?_; rintro e w' ⟨rfl, hw⟩; subst hw))
          go_loop [9] (fun I => ∃ i : Nat, I = .int .i64 (i : Int) ∧ i ≤ p) (fun I => p - (intOf I).toNat)
          case atStart => exact ⟨0, rfl, Nat.zero_le _⟩
          case round =>
            obtain ⟨i, rfl, hip⟩ := hrel
            by_cases hin : i < p
            · have e3 : decide ((i : Int) < (p : Int)) = true := decide_eq_true (by omega)
              have i0 : 0 ≤ (i : Int) := by omega
              have hp0 : ¬ p = 0 := by omega
              have hv1 := HV1.out i hin
              obtain ⟨z, hz, _, _, _⟩ := tm_fact (c - (i : Int)) (m := p) (by omega)
              rw [hz] at hv1
              obtain ⟨x1, hx1⟩ : ∃ x, valZ p (balF p k1 f1) k1 (i : Int) = x := ⟨_, rfl⟩
              rw [hx1] at hv1
              have HR1 : Hid (∀ W : World, Below w1.heap.size w1 W → Calls Try.prog 15 #[.int .u32 p, .slice A1 k1 c1, .int .i64 (i : Int)] W (RetP W (.int .i64 x1))) := Lib.hid fun W hW => hx1 ▸ rvalue25_any p k1 c1 _ A1 (balF p k1 f1) (i : Int) W h1 (by omega) hodd ((HS1.out.wide (Nat.zero_le _) (Nat.le_refl _)).below hW (Nat.le_refl _)) hW.size (by omega) HBD1.out (by omega)
              by_cases hzz : z = 0
              · have dz : (z == 0) = true := by rw [hzz]; rfl
                rw [if_pos hzz] at hv1
                subst hv1
                have HZ := Lib.hid hzz
                clear hzz hx1
                by_cases hcx : (i : Int) < c
                · have dc : decide ((i : Int) < c) = true := decide_eq_true hcx
                  go_wp2_with (first | (go_at_call 15; ((with_reducible refine (HR1.out _ HA2.out).mono ?_); rintro e w' ⟨rfl, hw⟩); subst hw))
                  all_goals
                    go_round
                    case rel => exact ⟨i + 1, by go_num, hin⟩
                    case measure => simp only [intOf]; omega
                · have dc : decide ((i : Int) < c) = false := decide_eq_false hcx
                  go_wp2_with (first | (go_at_call 15; ((with_reducible refine (HR1.out _ HA2.out).mono ?_); rintro e w' ⟨rfl, hw⟩); subst hw))
                  all_goals
                    go_round
                    case rel => exact ⟨i + 1, by go_num, hin⟩
                    case measure => simp only [intOf]; omega
              · have dz : (z == 0) = false := by rw [beq_eq_false_iff_ne]; exact hzz
                rw [if_neg hzz] at hv1
                subst hv1
                have HZ := Lib.hid hzz
                clear hzz hx1
                by_cases hcx : (i : Int) < c
                · have dc : decide ((i : Int) < c) = true := decide_eq_true hcx
                  go_wp2_with (first | (go_at_call 15; ((with_reducible refine (HR1.out _ HA2.out).mono ?_); rintro e w' ⟨rfl, hw⟩); subst hw))
                  all_goals
                    go_round
                    case rel => exact ⟨i + 1, by go_num, hin⟩
                    case measure => simp only [intOf]; omega
                · have dc : decide ((i : Int) < c) = false := decide_eq_false hcx
                  go_wp2_with (first | (go_at_call 15; ((with_reducible refine (HR1.out _ HA2.out).mono ?_); rintro e w' ⟨rfl, hw⟩); subst hw))
                  all_goals
                    go_round
                    case rel => exact ⟨i + 1, by go_num, hin⟩
                    case measure => simp only [intOf]; omega
            · obtain rfl : p = i := by omega
              have e3 : decide ((p : Int) < (p : Int)) = false := decide_eq_false (by omega)
              go_wp2_with fail
              refine (awake25_any _).mono ?_
              rintro e w4 ⟨rfl, hb4⟩
              go_wp2_with fail
              go_ret
              exact ⟨rfl, HB2.out.trans (hb4.mono HB2.out.size)⟩
        · have b1 : decide (c ≥ 0) = true := decide_eq_true (by omega)
          have b1' : decide (0 ≤ c) = true := decide_eq_true (by omega)
          have b2 : decide (c ≤ (p : Int)) = false := decide_eq_false (by omega)
          go_wp2_with (first | (go_at_call 29; refine (HPR.out _).mono ?_; rintro e w' ⟨rfl, hw⟩; subst hw) | (go_at_call 26; refine (HBAL.out _).mono ?_; rintro e w' ⟨rfl, hw⟩; subst hw))
          go_loop [9] (fun I => ∃ i : Nat, I = .int .i64 (i : Int) ∧ i ≤ p) (fun I => p - (intOf I).toNat)
          case atStart => exact ⟨0, rfl, Nat.zero_le _⟩
          case round =>
            obtain ⟨i, rfl, hip⟩ := hrel
            by_cases hin : i < p
            · have e3 : decide ((i : Int) < (p : Int)) = true := decide_eq_true (by omega)
              have i0 : 0 ≤ (i : Int) := by omega
              have hp0 : ¬ p = 0 := by omega
              have hv1 := HV1.out i hin
              obtain ⟨z, hz, _, _, _⟩ := tm_fact (c - (i : Int)) (m := p) (by omega)
              rw [hz] at hv1
              obtain ⟨x1, hx1⟩ : ∃ x, valZ p (balF p k1 f1) k1 (i : Int) = x := ⟨_, rfl⟩
              rw [hx1] at hv1
              have HR1 : Hid (∀ W : World, Below w1.heap.size w1 W → Calls Try.prog 15 #[.int .u32 p, .slice A1 k1 c1, .int .i64 (i : Int)] W (RetP W (.int .i64 x1))) := Lib.hid fun W hW => hx1 ▸ rvalue25_any p k1 c1 _ A1 (balF p k1 f1) (i : Int) W h1 (by omega) hodd ((HS1.out.wide (Nat.zero_le _) (Nat.le_refl _)).below hW (Nat.le_refl _)) hW.size (by omega) HBD1.out (by omega)
              by_cases hzz : z = 0
              · have dz : (z == 0) = true := by rw [hzz]; rfl
                rw [if_pos hzz] at hv1
                subst hv1
                have HZ := Lib.hid hzz
                clear hzz hx1
                by_cases hcx : (i : Int) < c
                · have dc : decide ((i : Int) < c) = true := decide_eq_true hcx
                  go_wp2_with (first | (go_at_call 15; ((with_reducible refine (HR1.out _ HA2.out).mono ?_); rintro e w' ⟨rfl, hw⟩); subst hw))
                  all_goals
                    go_round
                    case rel => exact ⟨i + 1, by go_num, hin⟩
                    case measure => simp only [intOf]; omega
                · have dc : decide ((i : Int) < c) = false := decide_eq_false hcx
                  go_wp2_with (first | (go_at_call 15; ((with_reducible refine (HR1.out _ HA2.out).mono ?_); rintro e w' ⟨rfl, hw⟩); subst hw))
                  all_goals
                    go_round
                    case rel => exact ⟨i + 1, by go_num, hin⟩
                    case measure => simp only [intOf]; omega
              · have dz : (z == 0) = false := by rw [beq_eq_false_iff_ne]; exact hzz
                rw [if_neg hzz] at hv1
                subst hv1
                have HZ := Lib.hid hzz
                clear hzz hx1
                by_cases hcx : (i : Int) < c
                · have dc : decide ((i : Int) < c) = true := decide_eq_true hcx
                  go_wp2_with (first | (go_at_call 15; ((with_reducible refine (HR1.out _ HA2.out).mono ?_); rintro e w' ⟨rfl, hw⟩); subst hw))
                  all_goals
                    go_round
                    case rel => exact ⟨i + 1, by go_num, hin⟩
                    case measure => simp only [intOf]; omega
                · have dc : decide ((i : Int) < c) = false := decide_eq_false hcx
                  go_wp2_with (first | (go_at_call 15; ((with_reducible refine (HR1.out _ HA2.out).mono ?_); rintro e w' ⟨rfl, hw⟩); subst hw))
                  all_goals
                    go_round
                    case rel => exact ⟨i + 1, by go_num, hin⟩
                    case measure => simp only [intOf]; omega
            · obtain rfl : p = i := by omega
              have e3 : decide ((p : Int) < (p : Int)) = false := decide_eq_false (by omega)
              go_wp2_with fail
              refine (awake25_any _).mono ?_
              rintro e w4 ⟨rfl, hb4⟩
              go_wp2_with fail
              go_ret
              exact ⟨rfl, HB2.out.trans (hb4.mono HB2.out.size)⟩
      · obtain ⟨q0, q1⟩ := hcc
        have b1 : decide (c ≥ 0) = true := decide_eq_true (by omega)
        have b1' : decide (0 ≤ c) = true := decide_eq_true (by omega)
        have b2 : decide (c ≤ (p : Int)) = true := decide_eq_true (by omega)
        have hv2 := cp_vals HE.out hth2 (stF_tb h1)
        have HV2 := Lib.hid (fun (i : Nat) (hi : i < p) => hv2.2 i hi)
        have hk2 := hv2.1
        have HS2 := Lib.hid hsq2
        have HBD2 := Lib.hid (fun j => balF_bd (L := k2) (f := f2) (show p ≤ 2147483647 by omega) hodd j)
        have dk2 : decide ((k2 : Int) > (p : Int)) = false := decide_eq_false (by omega)
        have dk2' : decide (p < k2) = false := decide_eq_false (by omega)
        clear hth2 hsq2 hv2
        go_wp2_with (first | (go_at_call 29; refine (HPR.out _).mono ?_; rintro e w' ⟨rfl, hw⟩; subst hw) | (go_at_call 26; refine (HBAL.out _).mono ?_; rintro e w' ⟨rfl, hw⟩; subst hw))
        go_loop [9] (fun I => ∃ i : Nat, I = .int .i64 (i : Int) ∧ i ≤ p) (fun I => p - (intOf I).toNat)
        case atStart => exact ⟨0, rfl, Nat.zero_le _⟩
        case round =>
          obtain ⟨i, rfl, hip⟩ := hrel
          by_cases hin : i < p
          · have e3 : decide ((i : Int) < (p : Int)) = true := decide_eq_true (by omega)
            have i0 : 0 ≤ (i : Int) := by omega
            have hp0 : ¬ p = 0 := by omega
            have hv1 := HV1.out i hin
            have hv2 := HV2.out i hin
            obtain ⟨z, hz, _, _, _⟩ := tm_fact (c - (i : Int)) (m := p) (by omega)
            rw [hz] at hv1
            obtain ⟨x1, hx1⟩ : ∃ x, valZ p (balF p k1 f1) k1 (i : Int) = x := ⟨_, rfl⟩
            rw [hx1] at hv1
            have HR1 : Hid (∀ W : World, Below w1.heap.size w1 W → Calls Try.prog 15 #[.int .u32 p, .slice A1 k1 c1, .int .i64 (i : Int)] W (RetP W (.int .i64 x1))) := Lib.hid fun W hW => hx1 ▸ rvalue25_any p k1 c1 _ A1 (balF p k1 f1) (i : Int) W h1 (by omega) hodd ((HS1.out.wide (Nat.zero_le _) (Nat.le_refl _)).below hW (Nat.le_refl _)) hW.size (by omega) HBD1.out (by omega)
            obtain ⟨x2, hx2⟩ : ∃ x, valZ p (balF p k2 f2) k2 (i : Int) = x := ⟨_, rfl⟩
            rw [hx2] at hv2
            have HR2 : Hid (∀ W : World, w2 = W → Calls Try.prog 15 #[.int .u32 p, .slice A2 k2 c2, .int .i64 (i : Int)] W (RetP W (.int .i64 x2))) := Lib.hid fun W hW => hW ▸ hx2 ▸ rvalue25_any p k2 c2 _ A2 (balF p k2 f2) (i : Int) w2 h1 (by omega) hodd (HS2.out.wide (Nat.zero_le _) (Nat.le_refl _)) (Nat.le_refl _) (by omega) HBD2.out (by omega)
            by_cases hzz : z = 0
            · have dz : (z == 0) = true := by rw [hzz]; rfl
              rw [if_pos hzz] at hv1
              subst hv1
              have HZ := Lib.hid hzz
              clear hzz hx1
              by_cases hcx : (i : Int) < c
              · have dc : decide ((i : Int) < c) = true := decide_eq_true hcx
                rw [show stF 0 c.toNat i = 1 from by unfold stF; rw [if_pos (by omega)]] at hv2
                subst hv2
                clear hx2
                go_wp2_with (first | (go_at_call 15; ((with_reducible refine (HR1.out _ HA2.out).mono ?_); rintro e w' ⟨rfl, hw⟩); subst hw) | (go_at_call 15; ((with_reducible refine (HR2.out _ rfl).mono ?_); rintro e w' ⟨rfl, hw⟩); subst hw))
                all_goals
                  go_round
                  case rel => exact ⟨i + 1, by go_num, hin⟩
                  case measure => simp only [intOf]; omega
              · have dc : decide ((i : Int) < c) = false := decide_eq_false hcx
                rw [show stF 0 c.toNat i = 0 from by unfold stF; rw [if_neg (by omega)]] at hv2
                subst hv2
                clear hx2
                go_wp2_with (first | (go_at_call 15; ((with_reducible refine (HR1.out _ HA2.out).mono ?_); rintro e w' ⟨rfl, hw⟩); subst hw) | (go_at_call 15; ((with_reducible refine (HR2.out _ rfl).mono ?_); rintro e w' ⟨rfl, hw⟩); subst hw))
                all_goals
                  go_round
                  case rel => exact ⟨i + 1, by go_num, hin⟩
                  case measure => simp only [intOf]; omega
            · have dz : (z == 0) = false := by rw [beq_eq_false_iff_ne]; exact hzz
              rw [if_neg hzz] at hv1
              subst hv1
              have HZ := Lib.hid hzz
              clear hzz hx1
              by_cases hcx : (i : Int) < c
              · have dc : decide ((i : Int) < c) = true := decide_eq_true hcx
                rw [show stF 0 c.toNat i = 1 from by unfold stF; rw [if_pos (by omega)]] at hv2
                subst hv2
                clear hx2
                go_wp2_with (first | (go_at_call 15; ((with_reducible refine (HR1.out _ HA2.out).mono ?_); rintro e w' ⟨rfl, hw⟩); subst hw) | (go_at_call 15; ((with_reducible refine (HR2.out _ rfl).mono ?_); rintro e w' ⟨rfl, hw⟩); subst hw))
                all_goals
                  go_round
                  case rel => exact ⟨i + 1, by go_num, hin⟩
                  case measure => simp only [intOf]; omega
              · have dc : decide ((i : Int) < c) = false := decide_eq_false hcx
                rw [show stF 0 c.toNat i = 0 from by unfold stF; rw [if_neg (by omega)]] at hv2
                subst hv2
                clear hx2
                go_wp2_with (first | (go_at_call 15; ((with_reducible refine (HR1.out _ HA2.out).mono ?_); rintro e w' ⟨rfl, hw⟩); subst hw) | (go_at_call 15; ((with_reducible refine (HR2.out _ rfl).mono ?_); rintro e w' ⟨rfl, hw⟩); subst hw))
                all_goals
                  go_round
                  case rel => exact ⟨i + 1, by go_num, hin⟩
                  case measure => simp only [intOf]; omega
          · obtain rfl : p = i := by omega
            have e3 : decide ((p : Int) < (p : Int)) = false := decide_eq_false (by omega)
            go_wp2_with fail
            refine (awake25_any _).mono ?_
            rintro e w4 ⟨rfl, hb4⟩
            go_wp2_with fail
            go_ret
            exact ⟨rfl, HB2.out.trans (hb4.mono HB2.out.size)⟩
  · have a1 : decide ((p : Int) < 3) = true := decide_eq_true (by omega)
    have a1' : decide (p < 3) = true := decide_eq_true (by omega)
    have a2 : decide ((p : Int) > 256) = false := decide_eq_false (by omega)
    have a2' : decide (256 < p) = false := decide_eq_false (by omega)
    have HE := Lib.hid hE
    clear hE
    go_enter Try.func8, Try.ntmps8
    go_wp2_with fail
    refine (HEQ.out _).mono ?_
    rintro e w1 ⟨hb1, hh1⟩
    have HB1 := Lib.hid hb1
    clear hb1
    rcases hh1 with ⟨_, rfl⟩ | ⟨h, _⟩ | ⟨h, _⟩
    rotate_left
    · exact absurd (HE.out.symm.trans h) (by decide)
    · exact absurd (HE.out.symm.trans h) (by decide)
    rw [HE.out]
    go_wp2_with fail
    refine (HLE.out _).mono ?_
    rintro e w2 ⟨hb2, hh2⟩
    have HB2 := Lib.hid (HB1.out.trans (hb2.mono HB1.out.size))
    clear hb2
    rcases hh2 with ⟨_, rfl⟩ | ⟨h, _⟩ | ⟨h, _⟩
    rotate_left
    · exact absurd (HE.out.symm.trans h) (by decide)
    · exact absurd (HE.out.symm.trans h) (by decide)
    rw [HE.out]
    go_wp2_with fail
    refine (awake25_any _).mono ?_
    rintro e w4 ⟨rfl, hb4⟩
    go_wp2_with fail
    go_ret
    exact ⟨rfl, HB2.out.trans (hb4.mono HB2.out.size)⟩
  · have a1 : decide ((p : Int) < 3) = false := decide_eq_false (by omega)
    have a1' : decide (p < 3) = false := decide_eq_false (by omega)
    have a2 : decide ((p : Int) > 256) = true := decide_eq_true (by omega)
    have a2' : decide (256 < p) = true := decide_eq_true (by omega)
    have a3 : decide ((p : Int) < 65536) = false := decide_eq_false (by omega)
    have a3' : decide (p < 65536) = false := decide_eq_false (by omega)
    have HE := Lib.hid hE
    clear hE
    go_enter Try.func8, Try.ntmps8
    go_wp2_with fail
    refine (HEQ.out _).mono ?_
    rintro e w1 ⟨hb1, hh1⟩
    have HB1 := Lib.hid hb1
    clear hb1
    rcases hh1 with ⟨_, rfl⟩ | ⟨h, _⟩ | ⟨h, _⟩
    rotate_left
    · exact absurd (HE.out.symm.trans h) (by decide)
    · exact absurd (HE.out.symm.trans h) (by decide)
    rw [HE.out]
    go_wp2_with fail
    refine (HLE.out _).mono ?_
    rintro e w2 ⟨hb2, hh2⟩
    have HB2 := Lib.hid (HB1.out.trans (hb2.mono HB1.out.size))
    clear hb2
    rcases hh2 with ⟨_, rfl⟩ | ⟨h, _⟩ | ⟨h, _⟩
    rotate_left
    · exact absurd (HE.out.symm.trans h) (by decide)
    · exact absurd (HE.out.symm.trans h) (by decide)
    rw [HE.out]
    go_wp2_with fail
    refine (awake25_any _).mono ?_
    rintro e w4 ⟨rfl, hb4⟩
    go_wp2_with fail
    go_ret
    exact ⟨rfl, HB2.out.trans (hb4.mono HB2.out.size)⟩
  · have a1 : decide ((p : Int) < 3) = false := decide_eq_false (by omega)
    have a1' : decide (p < 3) = false := decide_eq_false (by omega)
    have a2 : decide ((p : Int) > 256) = true := decide_eq_true (by omega)
    have a2' : decide (256 < p) = true := decide_eq_true (by omega)
    have a3 : decide ((p : Int) < 65536) = true := decide_eq_true (by omega)
    have a3' : decide (p < 65536) = true := decide_eq_true (by omega)
    rw [hpr] at HPR
    have HE := Lib.hid hE
    clear hE
    go_enter Try.func8, Try.ntmps8
    go_wp2_with fail
    refine (HEQ.out _).mono ?_
    rintro e w1 ⟨hb1, hh1⟩
    have HB1 := Lib.hid hb1
    clear hb1
    rcases hh1 with ⟨_, rfl⟩ | ⟨h, _⟩ | ⟨h, _⟩
    rotate_left
    · exact absurd (HE.out.symm.trans h) (by decide)
    · exact absurd (HE.out.symm.trans h) (by decide)
    rw [HE.out]
    go_wp2_with fail
    refine (HLE.out _).mono ?_
    rintro e w2 ⟨hb2, hh2⟩
    have HB2 := Lib.hid (HB1.out.trans (hb2.mono HB1.out.size))
    clear hb2
    rcases hh2 with ⟨_, rfl⟩ | ⟨h, _⟩ | ⟨h, _⟩
    rotate_left
    · exact absurd (HE.out.symm.trans h) (by decide)
    · exact absurd (HE.out.symm.trans h) (by decide)
    rw [HE.out]
    go_wp2_with (go_at_call 29; refine (HPR.out _).mono ?_; rintro e w' ⟨rfl, hw⟩; subst hw)
    refine (awake25_any _).mono ?_
    rintro e w4 ⟨rfl, hb4⟩
    go_wp2_with fail
    go_ret
    exact ⟨rfl, HB2.out.trans (hb4.mono HB2.out.size)⟩
  · have a1 : decide ((p : Int) < 3) = false := decide_eq_false (by omega)
    have a1' : decide (p < 3) = false := decide_eq_false (by omega)
    have a2 : decide ((p : Int) > 256) = true := decide_eq_true (by omega)
    have a2' : decide (256 < p) = true := decide_eq_true (by omega)
    have a3 : decide ((p : Int) < 65536) = true := decide_eq_true (by omega)
    have a3' : decide (p < 65536) = true := decide_eq_true (by omega)
    rw [hpr] at HPR
    have HE := Lib.hid hE
    clear hE
    go_enter Try.func8, Try.ntmps8
    go_wp2_with fail
    refine (HEQ.out _).mono ?_
    rintro e w1 ⟨hb1, hh1⟩
    have HB1 := Lib.hid hb1
    clear hb1
    rcases hh1 with ⟨_, rfl⟩ | ⟨h, _⟩ | ⟨h, _⟩
    rotate_left
    · exact absurd (HE.out.symm.trans h) (by decide)
    · exact absurd (HE.out.symm.trans h) (by decide)
    rw [HE.out]
    go_wp2_with fail
    refine (HLE.out _).mono ?_
    rintro e w2 ⟨hb2, hh2⟩
    have HB2 := Lib.hid (HB1.out.trans (hb2.mono HB1.out.size))
    clear hb2
    rcases hh2 with ⟨_, rfl⟩ | ⟨h, _⟩ | ⟨h, _⟩
    rotate_left
    · exact absurd (HE.out.symm.trans h) (by decide)
    · exact absurd (HE.out.symm.trans h) (by decide)
    rw [HE.out]
    go_wp2_with (go_at_call 29; refine (HPR.out _).mono ?_; rintro e w' ⟨rfl, hw⟩; subst hw)
    refine (awake25_any _).mono ?_
    rintro e w4 ⟨rfl, hb4⟩
    go_wp2_with fail
    go_ret
    exact ⟨rfl, HB2.out.trans (hb4.mono HB2.out.size)⟩
  · have a1 : decide ((p : Int) < 3) = false := decide_eq_false (by omega)
    have a1' : decide (p < 3) = false := decide_eq_false (by omega)
    have a2 : decide ((p : Int) > 256) = false := decide_eq_false (by omega)
    have a2' : decide (256 < p) = false := decide_eq_false (by omega)
    rw [hpr] at HPR
    have HE := Lib.hid hE
    clear hE
    go_enter Try.func8, Try.ntmps8
    go_wp2_with fail
    refine (HEQ.out _).mono ?_
    rintro e w1 ⟨hb1, hh1⟩
    have HB1 := Lib.hid hb1
    clear hb1
    rcases hh1 with ⟨_, rfl⟩ | ⟨h, _⟩ | ⟨h, _⟩
    rotate_left
    · exact absurd (HE.out.symm.trans h) (by decide)
    · exact absurd (HE.out.symm.trans h) (by decide)
    rw [HE.out]
    go_wp2_with fail
    refine (HLE.out _).mono ?_
    rintro e w2 ⟨hb2, hh2⟩
    have HB2 := Lib.hid (HB1.out.trans (hb2.mono HB1.out.size))
    clear hb2
    rcases hh2 with ⟨_, rfl⟩ | ⟨h, _⟩ | ⟨h, _⟩
    rotate_left
    · exact absurd (HE.out.symm.trans h) (by decide)
    · exact absurd (HE.out.symm.trans h) (by decide)
    rw [HE.out]
    go_wp2_with (go_at_call 29; refine (HPR.out _).mono ?_; rintro e w' ⟨rfl, hw⟩; subst hw)
    refine (awake25_any _).mono ?_
    rintro e w4 ⟨rfl, hb4⟩
    go_wp2_with fail
    go_ret
    exact ⟨rfl, HB2.out.trans (hb4.mono HB2.out.size)⟩
end Go.Proofs.Ytmidpholmgmdpaa
