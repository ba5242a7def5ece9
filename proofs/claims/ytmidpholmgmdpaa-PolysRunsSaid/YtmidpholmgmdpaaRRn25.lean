/- The contract of Run of layer 25, the reference's. -/
import Derived.Test.YtmidpholmgmdpaaRn25
namespace Go.Proofs.Ytmidpholmgmdpaa
open Go.RowKit
set_option linter.unusedVariables false

set_option maxRecDepth 100000 in
set_option maxHeartbeats 40000000 in
theorem rrun25_any (t n c : Nat) (A : Option Addr) (s : Nat → PS) (x : Int) (w : World) (ht : t ≤ 4294967295) (hs : Pln w w.heap.size A n s) (hn : n ≤ 9223372036854775807) :
    Calls Try.prog 25 #[.int .u32 t, .slice A n c, .int .i64 x] w (RetDp w (runV t n s x) (runE t n s x)) := by
  have HC := Lib.hid (rcheck25_any t n c A s w ht hs hn)
  have HS := Lib.hid hs
  clear hs
  by_cases he : chkE t n s = 0
  rotate_left
  · have HE := Lib.hid (runE_bad (x := x) he)
    have HV := Lib.hid (runV_bad (x := x) he)
    obtain ⟨E, hE⟩ : ∃ E, chkE t n s = E := ⟨_, rfl⟩
    rw [hE] at HC he HE
    have e1 : (E != 0) = true := by simp [he]
    clear he hE
    go_enter Try.func25, Try.ntmps25
    go_wp2_with fail
    refine HC.out.mono ?_
    rintro e w1 ⟨rfl, hb1⟩
    go_wp2_with fail
    go_ret2
    exact ⟨by rw [HE.out, HV.out]; rfl, hb1⟩
  obtain ⟨hmb, hn6, hok⟩ := chkE_ok he
  obtain ⟨ht3, htm, hodd⟩ := modB_yes.1 hmb
  have HOK := Lib.hid hok
  have HBX := Lib.hid (fun (W : World) => rbalanced25_any t x W ht3 htm hodd)
  cases hx : balB t x with
  | false =>
    rw [hx] at HBX
    have HE := Lib.hid (runE_no (x := x) he hx)
    have HV := Lib.hid (runV_no (n := n) (s := s) hx)
    rw [he] at HC
    clear he hmb hok hx
    go_enter Try.func25, Try.ntmps25
    go_wp2_with fail
    refine HC.out.mono ?_
    rintro e w1 ⟨rfl, hb1⟩
    go_wp2_with (go_at_call 26; refine (HBX.out _).mono ?_; rintro e w' ⟨rfl, hw⟩; subst hw)
    go_ret2
    exact ⟨by rw [HE.out, HV.out]; rfl, hb1⟩
  | true =>
  rw [hx] at HBX
  have HE := Lib.hid (runE_yes (x := x) he hx)
  have HVV := Lib.hid (runV_yes (x := x) he hx)
  have HBD : Hid (∀ j : Nat, j ≤ n → -1073741823 ≤ valD t x s j ∧ valD t x s j ≤ 1073741823) := Lib.hid fun j hj => balB_b htm (valD_bal hodd hx hok j hj)
  have HXB := Lib.hid hx
  rw [he] at HC
  clear he hmb hok hx
  go_enter Try.func25, Try.ntmps25
  go_wp2_with fail
  refine HC.out.mono ?_
  rintro e w1 ⟨rfl, hb1⟩
  have HB1 := Lib.hid hb1
  have hz1 := hb1.size
  clear hb1
  go_wp2_with (go_at_call 26; refine (HBX.out _).mono ?_; rintro e w' ⟨rfl, hw⟩; subst hw)
  have HO1 : Hid (Z.Own .i64 (w1.alloc (.cells #[.int .i64 x] 2)) w1.heap.size 2 (some ⟨w1.heap.size, 0, none⟩) (0 + 1) 1 (trI (0 + 1) (valD t x s))) := Lib.hid (own_oneZ (valD_zero t x s))
  have HBA : Hid (Below w1.heap.size w1 (w1.alloc (.cells #[.int .i64 x] 2))) := Lib.hid ((Below.refl _ w1).alloc (Nat.le_refl _) _)
  clear HBX
  go_loopw [9, 10] (fun L I wr => ∃ (i : Nat) (B : Option Addr) (cB : Nat), i ≤ n ∧ L = .slice B (i + 1) cB ∧ I = .int .i64 (i : Int) ∧ Z.Own .i64 wr w1.heap.size 2 B (i + 1) cB (trI (i + 1) (valD t x s)) ∧ Below w1.heap.size w1 wr) (fun _ I _ => n - (intOf I).toNat)
  case atStart => exact ⟨0, _, 1, Nat.zero_le _, rfl, rfl, HO1.out, HBA.out⟩
  case round =>
    clear HO1 HBA
    obtain ⟨i, B, cB, hin, rfl, rfl, hown, hbl⟩ := hrel
    have HOWN := Lib.hid hown
    have HBE := Lib.hid hbl
    have hzr := hbl.size
    clear hown hbl
    by_cases hi : i < n
    rotate_left
    · obtain rfl : n = i := by omega
      have e3 : decide ((n : Int) < (n : Int)) = false := decide_eq_false (by omega)
      obtain ⟨g, off, hB, _, hg, hcell⟩ := (HOWN.out.sq (Nat.le_refl _)).2 (by omega)
      have k1 := hcell n (by omega)
      rw [show trI (n + 1) (valD t x s) n = valD t x s n from by unfold trI; rw [if_pos (by omega)]] at k1
      obtain ⟨v, hv⟩ : ∃ v, valD t x s n = v := ⟨_, rfl⟩
      rw [hv] at k1
      rw [hB]
      have i1 : (n : Int) < ((n : Int) + 1) := by omega
      have i0 : 0 ≤ (n : Int) := by omega
      clear hcell hB
      have HV := Lib.hid hv
      clear hv
      go_wp2
      go_ret2
      exact ⟨by rw [HE.out, HVV.out, HV.out]; rfl, HB1.out.trans (HBE.out.mono hz1)⟩
    have e3 : decide ((i : Int) < (n : Int)) = true := decide_eq_true (by omega)
    obtain ⟨g, off, hAe, hg, hst⟩ := (HS.out.below HB1.out).below (HBE.out.mono hz1) (by omega)
    obtain ⟨k0, k1, k2, k3, C, cC, k4, hsq, hsn⟩ := hst i hi
    rw [hAe]
    have i0 : 0 ≤ (i : Int) := by omega
    have i1 : (i : Int) < (n : Int) := by omega
    have hstep := HOK.out i hi
    have hnext := valD_succ (x := x) hstep
    obtain ⟨S, hS⟩ : ∃ x, s i = x := ⟨_, rfl⟩
    rw [hS] at k0 k1 k2 k3 k4 hsq hsn hstep hnext
    obtain ⟨sm, sa, sb, sf, sn, cs⟩ := S
    simp only at k0 k1 k2 k3 k4 hsq hsn
    have HNX := Lib.hid hnext
    obtain ⟨w9, hw9⟩ : ∃ w9, w9 = wr.alloc (.cells #[.bool sm, .int .i64 sa, .int .i64 sb, .int .i64 sf, .slice C sn cC] 37) := ⟨_, rfl⟩
    have hb9 : Below wr.heap.size wr w9 := by rw [hw9]; exact (Below.refl _ wr).alloc (Nat.le_refl _) _
    have HB9 := Lib.hid (HBE.out.trans (hb9.mono hzr))
    have hz9 := hb9.size
    have HO9 := Lib.hid (HOWN.out.below hb9 (Nat.le_refl _))
    have HQ9 := Lib.hid (hsq.below (hb9.mono (Nat.le_trans hz1 hzr)) (Nat.le_refl _))
    obtain ⟨gB, offB, rfl, _, hgB, hcB⟩ := (HO9.out.sq (Nat.le_refl _)).2 (by omega)
    have q0 : w9.cell? ⟨wr.heap.size, 0, none⟩ = some (.bool sm) := by rw [hw9, World.cell?_alloc_new]; rfl
    have q1 : w9.cell? ⟨wr.heap.size, 1, none⟩ = some (.int .i64 sa) := by rw [hw9, World.cell?_alloc_new]; rfl
    have q2 : w9.cell? ⟨wr.heap.size, 2, none⟩ = some (.int .i64 sb) := by rw [hw9, World.cell?_alloc_new]; rfl
    have q3 : w9.cell? ⟨wr.heap.size, 3, none⟩ = some (.int .i64 sf) := by rw [hw9, World.cell?_alloc_new]; rfl
    have q4 : w9.cell? ⟨wr.heap.size, 4, none⟩ = some (.slice C sn cC) := by rw [hw9, World.cell?_alloc_new]; rfl
    have HW9 := Lib.hid hw9
    have HCB := Lib.hid hcB
    have HST := Lib.hid hstep
    clear hst hsq hAe hS hnext hb9 hw9 hcB hstep
    have hsn1 : sn ≤ i + 1 := HST.out.regs.2
    have htp : ¬ t = 0 := by omega
    cases sm with
    | true =>
      have hstep := HST.out
      unfold stepOk at hstep
      rw [if_pos rfl] at hstep
      obtain ⟨⟨a0, a1, b0, b1⟩, f0, n0⟩ := hstep
      simp only at a0 a1 b0 b1 f0 n0
      subst f0
      subst n0
      obtain ⟨a, rfl, ha⟩ := toNat_reg a0 a1
      obtain ⟨b, rfl, hb⟩ := toNat_reg b0 b1
      have m1 := HCB.out a (by omega)
      have m2 := HCB.out b (by omega)
      rw [show trI (i + 1) (valD t x s) a = valD t x s a from by unfold trI; rw [if_pos (by omega)]] at m1
      rw [show trI (i + 1) (valD t x s) b = valD t x s b from by unfold trI; rw [if_pos (by omega)]] at m2
      have d1 := HBD.out a (by omega)
      have d2 := HBD.out b (by omega)
      obtain ⟨u, hu⟩ : ∃ v, valD t x s a = v := ⟨_, rfl⟩
      obtain ⟨y, hy⟩ : ∃ v, valD t x s b = v := ⟨_, rfl⟩
      rw [hu] at m1 d1
      rw [hy] at m2 d2
      have j1 : (a : Int) < ((i : Int) + 1) := by omega
      have j2 : (b : Int) < ((i : Int) + 1) := by omega
      have j3 : 0 ≤ (a : Int) := by omega
      have j4 : 0 ≤ (b : Int) := by omega
      have huy := mul_b (h := 1073741823) (by omega) (by omega) d1 d2
      obtain ⟨z, hz⟩ : ∃ z, u * y = z := ⟨_, rfl⟩
      rw [hz] at huy
      have HF : Hid (valD t x s (i + 1) = bal t z) := Lib.hid (by
        rw [HNX.out]
        unfold vst vss
        rw [if_pos rfl]
        simp only [Int.toNat_natCast]
        rw [hu, hy, hz])
      have HBI := Lib.hid (bal_bound (q := t) hodd z)
      obtain ⟨zr, hzr2, z1, z2, z3⟩ := tm_fact z (m := t) (by omega)
      have HF2 : Hid (bal t zr = valD t x s (i + 1)) := Lib.hid (by rw [HF.out]; exact bal_congr z3)
      have hww : (wrap64 (u * y)).tmod (t : Int) = zr := by rw [hz, wrap64_eq (z := z) (by omega) (by omega), hzr2]
      have hw2 : wrap64 (u * y) = z := by rw [hz, wrap64_eq (z := z) (by omega) (by omega)]
      obtain ⟨rv, hrv⟩ : ∃ rv, valD t x s (i + 1) = rv := ⟨_, rfl⟩
      rw [hrv] at HF2
      have HRV := Lib.hid hrv
      have HRD : Hid (∀ W : World, Calls Try.prog 37 #[.int .i64 zr, .int .i64 (t : Int)] W (RetP W (.int .i64 rv))) := Lib.hid fun W => HF2.out ▸ rbal8_any zr t W ht3 htm hodd
      clear hu hy hz z3 hrv
      go_wp2
      rw [← HW9.out]
      go_quiet (fail)
      go_wp2
      go_loopw [12, 13] (fun D K w' => D = .int .i64 zr ∧ K = .int .i64 0 ∧ ∃ d, w' = w9.drewN d) (fun _ _ _ => 0)
      case atStart => exact ⟨rfl, rfl, _, rfl⟩
      case round =>
        obtain ⟨rfl, rfl, d, rfl⟩ := hrel
        have q4d : (w9.drewN d).cell? ⟨wr.heap.size, 4, none⟩ = some (.slice C 0 cC) := q4
        have HO9d : Hid (Z.Own .i64 (w9.drewN d) w1.heap.size 2 (some ⟨gB, offB, none⟩) (i + 1) cB (trI (i + 1) (valD t x s))) := Lib.hid HO9.out
        have HV : Hid (Value.int .i64 rv = .int .i64 (valD t x s (i + 1))) := Lib.hid (by rw [HRV.out])
        go_wp2_with (first | (go_at_call 37; refine (HRD.out _).mono ?_; rintro e w' ⟨rfl, hw⟩; subst hw) | (at_builtin; refine Z.wpl_append rfl _ _ _ rfl e64s' rfl (HO9d.out.alloc _) rfl (Z.sq_one (x := valD t x s (i + 1)) (lo := 0) HV.out (Nat.zero_le _) (Nat.lt_succ_self _)) (trI (i + 1 + 1) (valD t x s)) (fun j hj => trI_lt hj) trI_add (by unfold maxLen; omega) (by omega) (by simp; omega) ?_; intro B3 cB3 w3 hown3 hg3 hb3 hat3))
        go_roundw
        case rel => exact ⟨i + 1, B3, cB3, hi, rfl, by go_num, hown3, (below_drewN HB9.out d).trans (((Below.refl _ _).alloc (by show _ ≤ w9.heap.size; omega) _).trans hb3)⟩
        case measure => simp only [intOf]; omega
    | false =>
      have hstep2 := HST.out
      unfold stepOk at hstep2
      rw [if_neg Bool.false_ne_true] at hstep2
      obtain ⟨a0, b0, n0, f0, hcb⟩ := hstep2
      simp only at a0 b0 n0 f0 hcb
      subst a0
      subst b0
      have HCS : Hid (∀ j, j < sn → -1073741823 ≤ cs j ∧ cs j ≤ 1073741823) := Lib.hid fun j hj => balB_b htm (hcb j hj)
      have HF : Hid (valD t x s (i + 1) = vss t (valD t x s) cs sf sn) := Lib.hid (by
        rw [HNX.out]
        unfold vst
        rw [if_neg Bool.false_ne_true])
      have HVB : Hid (∀ j, -2147483647 ≤ rss t (valD t x s) cs sf j ∧ rss t (valD t x s) cs sf j ≤ 2147483647) := Lib.hid fun j => by have := rss_bound (f := valD t x s) (cs := cs) ht3 f0 j; omega
      have HLAST : Hid (bal t (rss t (valD t x s) cs sf sn) = valD t x s (i + 1)) := Lib.hid (by
        rw [HF.out]
        exact bal_of hodd (rss_cg sn).symm (balB_yes.1 (vss_bal hodd sn f0)))
      clear f0 hcb
      go_wp2
      rw [← HW9.out]
      go_loopw [12, 13] (fun D K w' => ∃ k : Nat, D = .int .i64 (rss t (valD t x s) cs sf k) ∧ K = .int .i64 (k : Int) ∧ k ≤ sn ∧ ∃ d, w' = w9.drewN d) (fun _ K _ => sn - (intOf K).toNat)
      case atStart => exact ⟨0, rfl, rfl, Nat.zero_le _, 0, rfl⟩
      case round =>
        obtain ⟨k, rfl, rfl, hk, d, rfl⟩ := hrel
        have q4d : (w9.drewN d).cell? ⟨wr.heap.size, 4, none⟩ = some (.slice C sn cC) := q4
        by_cases hks : k < sn
        · have e5 : decide ((k : Int) < (sn : Int)) = true := decide_eq_true (by omega)
          obtain ⟨g2, off2, hC, _, hg2, hcell⟩ := HQ9.out.2 (by omega)
          have k5 : (w9.drewN d).cell? ⟨g2, off2 + k, none⟩ = some (.int .i64 (cs k)) := hcell k (by omega)
          have k6 : (w9.drewN d).cell? ⟨gB, offB + k, none⟩ = some (.int .i64 (trI (i + 1) (valD t x s) k)) := HCB.out k (by omega)
          rw [show trI (i + 1) (valD t x s) k = valD t x s k from by unfold trI; rw [if_pos (by omega)]] at k6
          have d1 := HCS.out k hks
          have d2 := HBD.out k (by omega)
          have d3 := HVB.out k
          have hM : rss t (valD t x s) cs sf (k + 1) = (rss t (valD t x s) cs sf k + cs k * valD t x s k).tmod t := rfl
          obtain ⟨v, hv⟩ : ∃ v, cs k = v := ⟨_, rfl⟩
          obtain ⟨y, hy⟩ : ∃ v, valD t x s k = v := ⟨_, rfl⟩
          obtain ⟨u, hu⟩ : ∃ v, rss t (valD t x s) cs sf k = v := ⟨_, rfl⟩
          rw [hv] at k5 d1 hM
          rw [hy] at k6 d2 hM
          rw [hu] at d3 hM
          rw [hC] at q4 q4d
          have k5w : w9.cell? ⟨g2, off2 + k, none⟩ = some (.int .i64 v) := k5
          have k6w : w9.cell? ⟨gB, offB + k, none⟩ = some (.int .i64 y) := k6
          have hvy := mul_b (h := 1073741823) (by omega) (by omega) d1 d2
          obtain ⟨z, hz⟩ : ∃ z, v * y = z := ⟨_, rfl⟩
          rw [hz] at hvy hM
          have j0 : 0 ≤ (k : Int) := by omega
          have j1 : (k : Int) < (sn : Int) := by omega
          have j2 : (k : Int) < ((i : Int) + 1) := by omega
          have hwz : wrap64 (v * y) = z := by rw [hz, wrap64_eq (z := z) (by omega) (by omega)]
          rw [hu]
          obtain ⟨zr, hzr2, z1, z2, _⟩ := tm_fact (u + z) (m := t) (by omega)
          rw [hzr2] at hM
          have HM := Lib.hid hM
          have hww : (wrap64 (u + wrap64 (v * y))).tmod (t : Int) = zr := by rw [hwz, wrap64_eq (z := u + z) (by omega) (by omega), hzr2]
          have hw3 : wrap64 (u + z) = u + z := wrap64_eq (z := u + z) (by omega) (by omega)
          clear hcell hv hy hu hC hM hz
          go_wp2
          go_quiet (fail)
          go_wp2
          go_roundw
          case rel => exact ⟨k + 1, by rw [HM.out], by go_num, hks, _, by first | rfl | exact (World.drewN_drewN _ _ _)⟩
          case measure => simp only [intOf]; omega
        · obtain rfl : sn = k := by omega
          have e5 : decide ((sn : Int) < (sn : Int)) = false := decide_eq_false (by omega)
          obtain ⟨rv, hrv⟩ : ∃ rv, valD t x s (i + 1) = rv := ⟨_, rfl⟩
          have HRV := Lib.hid hrv
          obtain ⟨zr, hzr⟩ : ∃ zr, rss t (valD t x s) cs sf sn = zr := ⟨_, rfl⟩
          have hla := HLAST.out
          rw [hrv, hzr] at hla
          have HRD : Hid (∀ W : World, Calls Try.prog 37 #[.int .i64 zr, .int .i64 (t : Int)] W (RetP W (.int .i64 rv))) := Lib.hid fun W => hla ▸ rbal8_any zr t W ht3 htm hodd
          rw [hzr]
          clear hla hzr hrv
          have HO9d : Hid (Z.Own .i64 (w9.drewN d) w1.heap.size 2 (some ⟨gB, offB, none⟩) (i + 1) cB (trI (i + 1) (valD t x s))) := Lib.hid HO9.out
          have HV : Hid (Value.int .i64 rv = .int .i64 (valD t x s (i + 1))) := Lib.hid (by rw [HRV.out])
          go_wp2_with (first | (go_at_call 37; refine (HRD.out _).mono ?_; rintro e w' ⟨rfl, hw⟩; subst hw) | (at_builtin; refine Z.wpl_append rfl _ _ _ rfl e64s' rfl (HO9d.out.alloc _) rfl (Z.sq_one (x := valD t x s (i + 1)) (lo := 0) HV.out (Nat.zero_le _) (Nat.lt_succ_self _)) (trI (i + 1 + 1) (valD t x s)) (fun j hj => trI_lt hj) trI_add (by unfold maxLen; omega) (by omega) (by simp; omega) ?_; intro B3 cB3 w3 hown3 hg3 hb3 hat3))
          go_roundw
          case rel => exact ⟨i + 1, B3, cB3, hi, rfl, by go_num, hown3, (below_drewN HB9.out d).trans (((Below.refl _ _).alloc (by show _ ≤ w9.heap.size; omega) _).trans hb3)⟩
          case measure => simp only [intOf]; omega
end Go.Proofs.Ytmidpholmgmdpaa
