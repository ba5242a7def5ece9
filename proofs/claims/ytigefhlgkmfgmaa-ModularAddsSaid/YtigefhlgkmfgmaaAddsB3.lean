/- The walk of the law ModularAdds, way 3 of 4. -/
import Derived.Test.YtigefhlgkmfgmaaAddsA
namespace Go.Proofs.Ytigefhlgkmfgmaa
open Go.RowKit Go.Sort
set_option linter.unusedVariables false

set_option maxRecDepth 100000 in
set_option maxHeartbeats 2000000 in
theorem modularAdds_3 (a n many J K : Nat) (w : World) (ha : a ≤ 4294967295) (hn : n ≤ 4294967295) (hmany : many ≤ 4294967295) (hJ : J < 18446744073709551616) (hK : K < 18446744073709551616) (h1 : ¬ n < 2) (h2 : ¬ 2147483647 < n) (h3 : n ≤ a) :
    Calls Try.prog 6 #[.agg #[.int .u32 a, .int .u32 n, .int .u32 many, .int .u64 J, .int .u64 K]] w (RetV w (.bool true)) := by
  have hbx := below_box w (.cells #[.int .u32 a, .int .u32 n, .int .u32 many, .int .u64 J, .int .u64 K] 37)
  obtain ⟨j, hj⟩ : ∃ j, J / 2 = j := ⟨_, rfl⟩
  obtain ⟨k, hk⟩ : ∃ k, K / 2 = k := ⟨_, rfl⟩
  have hjd : (J : Int) / 2 = (j : Int) := by omega
  have hkd : (K : Int) / 2 = (k : Int) := by omega
  have hjt : (J : Int).tdiv 2 = (j : Int) := by rw [Int.tdiv_eq_ediv_of_nonneg (by omega)]; omega
  have hkt : (K : Int).tdiv 2 = (k : Int) := by rw [Int.tdiv_eq_ediv_of_nonneg (by omega)]; omega
  have hj2 : j ≤ 9223372036854775807 := by omega
  have hk2 : k ≤ 9223372036854775807 := by omega
  have hwj : IntKind.u64.wrap (j : Int) = (j : Int) := IntWalk.u64_in _ (by omega)
  have hwk : IntKind.u64.wrap (k : Int) = (k : Int) := IntWalk.u64_in _ (by omega)
  clear hj hk
  go_enter Try.func6, Try.ntmps6
  go_wp2_with fail
  go_quiet (fail)
  have hb0 := hbx nq
  generalize World.drewN (w.alloc _) nq = w0 at hb0 ⊢
  clear hbx hjd hkd hjt hkt hwj hwk
  have H0 := Lib.hid (fun V => factors_any many V hmany)
  have HV := Lib.hid (fun x V hx => val_any x V hx)
  have q1 : decide ((n : Int) ≥ 2) = true := decide_eq_true (by omega)
  have q2 : decide ((n : Int) ≤ 2147483647) = true := decide_eq_true (by omega)
  have q3 : decide ((a : Int) < (n : Int)) = false := decide_eq_false (by omega)
  go_wp2_with fail
  (with_reducible refine (H0.out w0).mono ?_)
  rintro e w1 ⟨A, c, E, l, rfl, hlc, hpw, hfr, hb1'⟩
  have hb1 := hb0.trans (hb1'.mono hb0.size)
  have hz1 := hb1.size
  have hz01 := hb1'.size
  rcases hfr with ⟨rfl, rfl, rfl⟩ | ⟨hm0, rfl, hfac, hl40⟩
  · go_wp2_with fail
    (with_reducible refine (shown_any w1).mono ?_)
    rintro e w5 ⟨rfl, hb5⟩
    go_wp2_with fail
    go_ret
    exact ⟨rfl, hb1.trans (hb5.mono hb1.size)⟩
  have HPW := Lib.hid hpw
  have HFAC := Lib.hid hfac
  have p1 : ((many : Int) == 0) = false := by simp; omega
  clear hpw hfac
  go_wp2_with fail
  go_loopw [16, 17] (fun P I wr => ∃ p i : Nat, P = .int .u64 (p : Int) ∧ I = .int .i64 (i : Int) ∧ i ≤ l.length ∧ p ≤ many ∧ pf (l.take i) = p ∧ Below w1.heap.size w1 wr) (fun _ I _ => l.length - (intOf I).toNat)
  case atStart => exact ⟨1, 0, rfl, rfl, Nat.zero_le _, hm0, rfl, Below.refl _ _⟩
  case round =>
    obtain ⟨p, i, rfl, rfl, hil, hpm, hpf, hbl⟩ := hrel
    have HPF := Lib.hid hpf
    have hzr := hbl.size
    clear hpf
    by_cases hin : i < l.length
    · obtain ⟨b, rfl, _, hbhi, hcell⟩ := HPW.out (by intro e; rw [e] at hin; exact absurd hin (Nat.not_lt_zero i))
      obtain ⟨x, hx⟩ : ∃ x, l[i]? = some x := ⟨l[i], List.getElem?_eq_getElem hin⟩
      obtain ⟨k1, k2⟩ := hcell i x hx
      obtain ⟨hqp, hqN⟩ := fac_pr HFAC.out (List.mem_of_getElem? hx)
      obtain ⟨he1, he2⟩ := fac_exp HFAC.out hm0 hmany (List.mem_of_getElem? hx)
      have hq2 := hqp.1
      have hqle := Nat.le_of_dvd hm0 hqN
      have HXX := Lib.hid hx
      have hasc : ∀ j, i = j + 1 → ∃ y, l[j]? = some y ∧ y.1 < x.1 := fun j hj => by
        obtain ⟨y, hy⟩ : ∃ y, l[j]? = some y := ⟨l[j]'(by omega), List.getElem?_eq_getElem (by omega)⟩
        exact ⟨y, hy, fac_asc HFAC.out (show j < i by omega) hy hx⟩
      have HASC := Lib.hid hasc
      have HCELL := Lib.hid hcell
      obtain ⟨q, e⟩ := x
      simp only at k1 k2 hq2 hqle he1 he2 hqp
      have HQP := Lib.hid (fun V => prime_any q V (by omega))
      rw [prB_yes hqp] at HQP
      have HPC := Lib.hid (fun d os => Calls.regrown_of (w := wr) (d := d) (os := os) ((HQP.out (grow (redrawn wr d) os)).mono fun e w' h => ⟨h.1, h.2⟩))
      have k1r := (hbl.cell (p := ⟨b, i * 2, none⟩) (by show b < _; omega)).trans k1
      have k2r := (hbl.cell (p := ⟨b, i * 2 + 1, none⟩) (by show b < _; omega)).trans k2
      have k1g := cell_regrown k1r
      have k2g := cell_regrown k2r
      have d1 : decide ((e : Int) < 1) = false := decide_eq_false (by omega)
      have d2 : decide ((e : Int) > 31) = false := decide_eq_false (by omega)
      have b1 : 0 ≤ (i : Int) := by omega
      have b2 : (i : Int) < (l.length : Int) := by omega
      clear hx hcell hqp hqN hasc k1 k2 k1r k2r
      by_cases hi0 : i = 0
      · have d3 : decide ((i : Int) > 0) = false := decide_eq_false (by omega)
        have d3' : decide (0 < i) = false := decide_eq_false (by omega)
        clear hi0
        go_wp2_with fail
        refine wp_region_quiet_below (by kernel_rfl) (by kernel_rfl) ?_
        repeat
          (with_reducible refine wpQuiet_step (fun K hK => ?_))
          go_simp
          first
            | (refine hK _ ?_; clear hK K)
            | (apply Exists.intro
               refine ⟨fun _ => ?_, hK _ ?_⟩
               exact HPC.out _ _
               clear hK K)
        refine wpQuiet_nil ?_
        rintro _ ⟨⟨dd, os1⟩, rfl⟩
        have hb9' := below_regrown wr dd os1
        generalize grow (redrawn wr dd) os1 = w9 at hb9' ⊢
        have hb9 := hbl.trans (hb9'.mono hzr)
        have k1 := (hb9.cell (p := ⟨b, i * 2, none⟩) (by show b < _; omega)).trans ((HCELL.out i (q, e) HXX.out).1)
        have k2 := (hb9.cell (p := ⟨b, i * 2 + 1, none⟩) (by show b < _; omega)).trans ((HCELL.out i (q, e) HXX.out).2)
        simp only at k1 k2
        clear k1g k2g hb9' HPC HQP
        go_wp2_with fail
        go_loop [16, 18] (fun P M => ∃ pp m : Nat, P = .int .u64 (pp : Int) ∧ M = .int .i64 (m : Int) ∧ m ≤ e ∧ pp ≤ many ∧ p * q ^ m = pp) (fun _ M => e - (intOf M).toNat)
        case atStart => exact ⟨p, 0, rfl, rfl, Nat.zero_le _, hpm, by rw [Nat.pow_zero, Nat.mul_one]⟩
        case round =>
          obtain ⟨pp, m, rfl, rfl, hme, hppm, hpp⟩ := hrel
          have HPP := Lib.hid hpp
          clear hpp
          by_cases hlt : m < e
          · obtain ⟨nx, hnx⟩ : ∃ nx, pp * q = nx := ⟨_, rfl⟩
            have hnxe : p * q ^ (m + 1) = nx := by rw [← hnx, ← HPP.out, Nat.pow_succ, Nat.mul_assoc]
            have hnxm : nx ≤ many := by
              rw [← hnxe, ← HPF.out]
              exact pf_le (x := (q, e)) HFAC.out hm0 HXX.out (show m + 1 ≤ e by omega)
            have hmul : (pp : Int) * (q : Int) = (nx : Int) := by rw [← hnx]; simp
            have HNX := Lib.hid hnxe
            have d7 : decide ((nx : Int) > (many : Int)) = false := decide_eq_false (by omega)
            have d8 : decide (many < nx) = false := decide_eq_false (by omega)
            clear hnx hnxe
            go_wp2
            go_round
            case rel => exact ⟨nx, m + 1, by first | rfl | rw [hmul], by go_num, hlt, hnxm, HNX.out⟩
            case measure => simp only [intOf]; omega
          · obtain rfl : m = e := by omega
            have hpt : pf (l.take (i + 1)) = pp := by rw [pf_take HXX.out, HPF.out]; exact HPP.out
            have HPT := Lib.hid hpt
            clear hpt
            go_wp2
            go_roundw
            case rel => exact ⟨pp, i + 1, rfl, by go_num, hin, hppm, HPT.out, hb9⟩
            case measure => simp only [intOf]; omega
      · obtain ⟨j, hj⟩ : ∃ j, i = j + 1 := ⟨i - 1, by omega⟩
        obtain ⟨y, hy, hylt⟩ := HASC.out j hj
        obtain ⟨k3, _⟩ := HCELL.out j y hy
        have k3r := (hbl.cell (p := ⟨b, j * 2, none⟩) (by show b < _; omega)).trans k3
        obtain ⟨q', e'⟩ := y
        simp only at k3r hylt
        have k3g := cell_regrown k3r
        have d3 : decide ((i : Int) > 0) = true := decide_eq_true (by omega)
        have d3' : decide (0 < i) = true := decide_eq_true (by omega)
        have d4 : decide ((q : Int) ≤ (q' : Int)) = false := decide_eq_false (by omega)
        have d4' : decide (q ≤ q') = false := decide_eq_false (by omega)
        have d5 : (i : Int) - 1 = (j : Int) := by omega
        have d6 : IntKind.i64.wrap (j : Int) = (j : Int) := IntWalk.i64_in _ (by omega)
        have b3 : 0 ≤ (j : Int) := by omega
        have b4 : (j : Int) < (l.length : Int) := by omega
        clear hi0 hj hy k3 k3r
        go_wp2_with fail
        refine wp_region_quiet_below (by kernel_rfl) (by kernel_rfl) ?_
        repeat
          (with_reducible refine wpQuiet_step (fun K hK => ?_))
          go_simp
          first
            | (refine hK _ ?_; clear hK K)
            | (apply Exists.intro
               refine ⟨fun _ => ?_, hK _ ?_⟩
               exact HPC.out _ _
               clear hK K)
        refine wpQuiet_nil ?_
        rintro _ ⟨⟨dd, os1⟩, rfl⟩
        have hb9' := below_regrown wr dd os1
        generalize grow (redrawn wr dd) os1 = w9 at hb9' ⊢
        clear d5 d6 k3g
        have hb9 := hbl.trans (hb9'.mono hzr)
        have k1 := (hb9.cell (p := ⟨b, i * 2, none⟩) (by show b < _; omega)).trans ((HCELL.out i (q, e) HXX.out).1)
        have k2 := (hb9.cell (p := ⟨b, i * 2 + 1, none⟩) (by show b < _; omega)).trans ((HCELL.out i (q, e) HXX.out).2)
        simp only at k1 k2
        clear k1g k2g hb9' HPC HQP
        go_wp2_with fail
        go_loop [16, 18] (fun P M => ∃ pp m : Nat, P = .int .u64 (pp : Int) ∧ M = .int .i64 (m : Int) ∧ m ≤ e ∧ pp ≤ many ∧ p * q ^ m = pp) (fun _ M => e - (intOf M).toNat)
        case atStart => exact ⟨p, 0, rfl, rfl, Nat.zero_le _, hpm, by rw [Nat.pow_zero, Nat.mul_one]⟩
        case round =>
          obtain ⟨pp, m, rfl, rfl, hme, hppm, hpp⟩ := hrel
          have HPP := Lib.hid hpp
          clear hpp
          by_cases hlt : m < e
          · obtain ⟨nx, hnx⟩ : ∃ nx, pp * q = nx := ⟨_, rfl⟩
            have hnxe : p * q ^ (m + 1) = nx := by rw [← hnx, ← HPP.out, Nat.pow_succ, Nat.mul_assoc]
            have hnxm : nx ≤ many := by
              rw [← hnxe, ← HPF.out]
              exact pf_le (x := (q, e)) HFAC.out hm0 HXX.out (show m + 1 ≤ e by omega)
            have hmul : (pp : Int) * (q : Int) = (nx : Int) := by rw [← hnx]; simp
            have HNX := Lib.hid hnxe
            have d7 : decide ((nx : Int) > (many : Int)) = false := decide_eq_false (by omega)
            have d8 : decide (many < nx) = false := decide_eq_false (by omega)
            clear hnx hnxe
            go_wp2
            go_round
            case rel => exact ⟨nx, m + 1, by first | rfl | rw [hmul], by go_num, hlt, hnxm, HNX.out⟩
            case measure => simp only [intOf]; omega
          · obtain rfl : m = e := by omega
            have hpt : pf (l.take (i + 1)) = pp := by rw [pf_take HXX.out, HPF.out]; exact HPP.out
            have HPT := Lib.hid hpt
            clear hpt
            go_wp2
            go_roundw
            case rel => exact ⟨pp, i + 1, rfl, by go_num, hin, hppm, HPT.out, hb9⟩
            case measure => simp only [intOf]; omega
    · obtain rfl : i = l.length := by omega
      have hpm2 : p = many := by rw [← HPF.out, List.take_length]; exact pf_all HFAC.out hm0
      have p2 : ((p : Int) == (many : Int)) = true := by rw [hpm2]; simp
      clear hpm2
      go_wp2_with fail
      (with_reducible refine (shown_any wr).mono ?_)
      rintro e w5 ⟨rfl, hb5⟩
      go_wp2_with fail
      go_ret
      exact ⟨rfl, hb1.trans ((hbl.trans (hb5.mono hzr)).mono hz1)⟩
end Go.Proofs.Ytigefhlgkmfgmaa
