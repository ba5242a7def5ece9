/- The reference's Lift: among the candidates one alone is a root. -/
/- The contract of the reference's Least: the least root of x^n + 1. -/
/- The contract of the reference's Dimension. -/
/- The contract of the reference's Root of layer 7: the same as factor.Root's. -/
/- A slice of signed numbers that came in, told by a function. -/
/- A slice of signed numbers that came in, with its capacity. -/
import Derived.Test.YtkklacgoeopekaaRMod7
import Derived.Test.YtkklacgoeopekaaDivisors
import Derived.Test.YtkklacgoeopekaaProduct
namespace Go.Proofs.Ytkklacgoeopekaa
open Go.RowKit
set_option linter.unusedVariables false

theorem cand_uniq {a : Nat → Int} {n p i root x t u : Nat} (hp : Mr.Pr p) (hi : 1 ≤ i) (hd : dN a n root p ≠ 0) (h : Lf a n p i root x) (ht : t < p) (hu : u < p)
    (h1 : Cg (p ^ i * p) (pv a n ((x + t * p ^ i : Nat) : Int)) 0) (h2 : Cg (p ^ i * p) (pv a n ((x + u * p ^ i : Nat) : Int)) 0) : t = u := by
  have hp2 := hp.1
  have hP0 : 0 < p ^ i := Nat.pow_pos (by omega)
  have hPp : p ∣ p ^ i := ⟨p ^ (i - 1), by rw [Nat.mul_comm, ← Nat.pow_succ]; congr 1; omega⟩
  have hxr : Cg p (x : Int) (root : Int) := by
    rw [← h.2.1]
    exact (Cg.modN x).symm
  have hd' : ¬ Cg p (dv a n x) 0 := fun hc => by
    have h3 := (dN_cg (a := a) (n := n) (x := root) (m := p) (by omega)).trans ((dv_cg a n hxr).symm.trans hc)
    exact hd (Cg.eq_nat (b := 0) h3 (dN_lt (by omega)) (by omega))
  have e1 : ((x + t * p ^ i : Nat) : Int) = (x : Int) + (t : Int) * ((p ^ i : Nat) : Int) := by simp
  have e2 : ((x + u * p ^ i : Nat) : Int) = (x : Int) + (u : Int) * ((p ^ i : Nat) : Int) := by simp
  rw [e1] at h1
  rw [e2] at h2
  exact Cg.eq_nat (lift_uniq hp hPp hP0 a n hd' h1 h2) ht hu
set_option maxRecDepth 100000 in
set_option maxHeartbeats 4000000 in
theorem rlift_any (n c p root lo hi : Nat) (r : Int) (A : Option Addr) (a : Nat → Int) (w : World) (ha : Si w lo hi A n a) (hn : n ≤ 9223372036854775807) (hp : p ≤ 4294967295) (hr : r ≤ 9223372036854775807) (hroot : root ≤ 4294967295) (hhi : hi ≤ w.heap.size) :
    Calls Try.prog 22 #[.slice A n c, .int .u32 (p : Int), .int .i64 r, .int .u32 (root : Int)] w (RetLf w a n p r root) := by
  have HP := Lib.hid (rmodulus_any p r w hp)
  have HA := Lib.hid ha
  clear ha
  go_enter Try.func22, Try.ntmps22
  go_wp2_with fail
  (with_reducible refine HP.out.mono ?_)
  rintro e w1 ⟨hb1, hh⟩
  have hz1 := hb1.size
  rcases hh with ⟨hpl, rfl⟩ | ⟨hpl, rfl⟩
  rotate_left
  · have HN : Hid (¬ (Pl p r ∧ root < p)) := Lib.hid fun h => hpl h.1
    clear hpl
    go_wp2_with fail
    go_ret2
    exact ⟨hb1, .inl ⟨HN.out, rfl⟩⟩
  by_cases hrp : root < p
  rotate_left
  · have HN : Hid (¬ (Pl p r ∧ root < p)) := Lib.hid fun h => hrp h.2
    have e1 : decide ((root : Int) ≥ (p : Int)) = true := decide_eq_true (by omega)
    have e2 : decide (p ≤ root) = true := decide_eq_true (by omega)
    clear hpl hrp
    go_wp2_with fail
    go_ret2
    exact ⟨hb1, .inl ⟨HN.out, rfl⟩⟩
  have HPL : Hid (Pl p r ∧ root < p) := Lib.hid ⟨hpl, hrp⟩
  have e1 : decide ((root : Int) ≥ (p : Int)) = false := decide_eq_false (by omega)
  have e2 : decide (p ≤ root) = false := decide_eq_false (by omega)
  by_cases hlong : 256 < n
  · have e3 : decide ((n : Int) > 256) = true := decide_eq_true (by omega)
    have HL := Lib.hid hlong
    clear hpl hlong
    go_wp2_with fail
    go_ret2
    exact ⟨hb1, .inr (.inl ⟨HPL.out, HL.out, rfl⟩)⟩
  have e3 : decide ((n : Int) > 256) = false := decide_eq_false (by omega)
  have HL : Hid (n ≤ 256) := Lib.hid (by omega)
  have hp3 := hpl.1
  have hp6 := hpl.2.1
  have HPR := Lib.hid hpl.2.2.1
  obtain ⟨k, rfl⟩ : ∃ k : Nat, r = (k : Int) := ⟨r.toNat, by have := hpl.2.2.2.1; omega⟩
  have hk1 : 1 ≤ k := by have := hpl.2.2.2.1; omega
  have hM := hpl.2.2.2.2
  rw [Int.toNat_natCast] at hM ⊢
  obtain ⟨M, hMe⟩ : ∃ M, p ^ k = M := ⟨_, rfl⟩
  rw [hMe] at hM ⊢
  have HM := Lib.hid hMe
  have HV := Lib.hid (rat_any n c root p lo hi A a w1 (HA.out.below hb1 hhi) (by omega) (by omega) (by omega) (by omega))
  have HDR := Lib.hid (rder_any n c p lo hi A a w1 (HA.out.below hb1 hhi) (by omega) (by omega) (by omega) (Nat.le_trans hhi hz1))
  have HDV : Hid (vN (derF a n p) (n - 1) root p = dN a n root p) := Lib.hid (by
    refine eq_dN (vN_lt (by omega)) ((vN_cg (by omega)).trans (pv_der _ HA.out.1))) 
  have hvl : vN a n root p < p := vN_lt (by omega)
  have hdl : dN a n root p < p := dN_lt (by omega)
  obtain ⟨v0, hv0⟩ : ∃ v0, vN a n root p = v0 := ⟨_, rfl⟩
  obtain ⟨d0, hd0⟩ : ∃ d0, dN a n root p = d0 := ⟨_, rfl⟩
  rw [hv0] at HV hvl
  rw [hd0] at hdl HDV
  have HV0 := Lib.hid hv0
  have HD0 := Lib.hid hd0
  clear hpl hMe hv0 hd0 hlong
  by_cases hv1 : v0 = 0
  rotate_left
  · have HN : Hid (¬ LfPre a n p root) := Lib.hid fun h => hv1 (by rw [← HV0.out]; exact h.1)
    have f1 : ((v0 : Int) != 0) = true := by simp; omega
    clear hv1
    go_wp2_with (go_at_call 41; refine HV.out.mono ?_; rintro e w' ⟨rfl, hw⟩; subst hw)
    go_ret2
    exact ⟨hb1, .inr (.inr (.inl ⟨HPL.out, HL.out, HN.out, rfl⟩))⟩
  subst hv1
  go_wp2_with (go_at_call 41; refine HV.out.mono ?_; rintro e w' ⟨rfl, hw⟩; subst hw)
  refine HDR.out.mono ?_
  rintro e w2 ⟨A2, c2, rfl, _, hs2, hb2⟩
  have hz2 := hb2.size
  have hb12 := hb1.trans (hb2.mono hz1)
  have HV2 := Lib.hid (rat_any (n - 1) c2 root p w1.heap.size w2.heap.size A2 (derF a n p) w2 hs2 (by have := HL.out; omega) (by omega) (by omega) (by omega))
  rw [HDV.out] at HV2
  have HA2 := Lib.hid (HA.out.below hb12 hhi)
  clear hs2
  by_cases hd1 : d0 = 0
  · subst hd1
    have HN : Hid (¬ LfPre a n p root) := Lib.hid fun h => h.2 HD0.out
    go_wp2_with (go_at_call 41; refine HV2.out.mono ?_; rintro e w' ⟨rfl, hw⟩; subst hw)
    go_ret2
    exact ⟨hb12, .inr (.inr (.inl ⟨HPL.out, HL.out, HN.out, rfl⟩))⟩
  have f1 : ((d0 : Int) == 0) = false := by simp; omega
  have HPRE : Hid (LfPre a n p root) := Lib.hid ⟨HV0.out, by rw [HD0.out]; exact hd1⟩
  have HLF1 : Hid (Lf a n p 1 root root) := Lib.hid (by
    refine ⟨by rw [Nat.pow_one]; exact hrp, Nat.mod_eq_of_lt hrp, ?_⟩
    rw [Nat.pow_one]
    have := vN_cg (a := a) (n := n) (x := root) (m := p) (by omega)
    rw [HV0.out] at this
    exact this.symm)
  clear hd1
  go_wp2_with (go_at_call 41; refine HV2.out.mono ?_; rintro e w' ⟨rfl, hw⟩; subst hw)
  have hg : Nat.gcd p d0 = 1 := HPR.out.coprime fun hd => by have := Nat.le_of_dvd (by have := HPRE.out.2; rw [HD0.out] at this; omega) hd; omega
  have hsp := invN_spec hdl (by omega) hg
  have HSP : Hid (invN d0 p * dN a n root p % p = 1 % p) := Lib.hid (by rw [HD0.out]; exact hsp.2)
  clear hg hsp
  go_loop [12, 13] (fun X P => ∃ x P' i : Nat, X = .int .u64 (x : Int) ∧ P = .int .u64 (P' : Int) ∧ 1 ≤ i ∧ i ≤ k ∧ p ^ i = P' ∧ P' ≤ M ∧ Lf a n p i root x) (fun _ P => M - (intOf P).toNat)
  case atStart => exact ⟨root, p, 1, rfl, rfl, Nat.le_refl _, hk1, Nat.pow_one p, by rw [← HM.out]; exact Nat.le_trans (Nat.le_of_eq (Nat.pow_one p).symm) (Nat.pow_le_pow_right (by omega) hk1), HLF1.out⟩
  case round =>
    obtain ⟨x, P, i, rfl, rfl, hi1, hik, hPi, hPM, hlf⟩ := hrel
    have hxP : x < P := by rw [← hPi]; exact hlf.1
    have HLF := Lib.hid hlf
    have HPI := Lib.hid hPi
    clear hlf hPi
    by_cases hlt : P < M
    · have hilt : i < k := by
        rcases Nat.lt_or_ge i k with h | h
        · exact h
        · exfalso
          have := HPI.out
          have := HM.out
          rw [show i = k by omega] at *
          omega
      obtain ⟨P2, hP2⟩ : ∃ P2, P * p = P2 := ⟨_, rfl⟩
      have hP2e : p ^ (i + 1) = P2 := by rw [Nat.pow_succ, HPI.out, hP2]
      have hP2M : P2 ≤ M := by rw [← hP2e, ← HM.out]; exact Nat.pow_le_pow_right (by omega) hilt
      have hP2i : (P : Int) * (p : Int) = (P2 : Int) := by rw [← hP2]; simp
      have hP1 : 1 ≤ P := by omega
      have hPlt : P < P2 := by
        rw [← hP2]
        calc P = P * 1 := (Nat.mul_one P).symm
          _ < P * p := Nat.mul_lt_mul_of_pos_left (by omega) (by omega)
      have hst := lift_step (a := a) (n := n) HPR.out hi1 HSP.out HLF.out
      rw [HPI.out] at hst
      obtain ⟨t, ht⟩ : ∃ t, (p - vN a n x (P * p) / P * invN d0 p % p) % p = t := ⟨_, rfl⟩
      rw [ht] at hst
      have htp : t < p := by rw [← ht]; exact Nat.mod_lt _ (by omega)
      obtain ⟨y, hy⟩ : ∃ y, x + t * P = y := ⟨_, rfl⟩
      rw [hy] at hst
      have hyP : y < P2 := by have := hst.1; rwa [hP2e] at this
      have HONE : Hid (∀ s, s < p → vN a n (x + s * P) P2 = 0 → s = t) := Lib.hid (fun s hs hv => by
        have hc := vN_cg (a := a) (n := n) (x := x + s * P) (m := P2) (by omega)
        rw [hv] at hc
        refine cand_uniq HPR.out hi1 HPRE.out.2 HLF.out hs htp ?_ ?_
        · rw [HPI.out, hP2]; exact hc.symm
        · rw [HPI.out, hy, hP2]; have h3 := hst.2.2; rwa [hP2e] at h3)
      have HST := Lib.hid hst
      have HP2E := Lib.hid hP2e
      have HY := Lib.hid hy
      have g1 : decide ((P : Int) < (M : Int)) = true := decide_eq_true (by omega)
      clear hst hP2 hP2e ht hy
      go_wp2
      go_loop [12] (fun X => ∃ z s : Nat, X = .int .u64 (z : Int) ∧ x + s * P = z ∧ s ≤ t ∧ z ≤ y) (fun X => y - (intOf X).toNat)
      case atStart => exact ⟨x, 0, rfl, by simp, Nat.zero_le _, by rw [← HY.out]; omega⟩
      case round =>
        obtain ⟨z, s, rfl, hz, hst2, hzy⟩ := hrel
        have HZ := Lib.hid hz
        clear hz
        have HVX := Lib.hid (rat_any n c z P2 lo hi A a w2 HA2.out (by have := HL.out; omega) (by omega) (by omega) (by omega))
        obtain ⟨v, hv⟩ : ∃ v, vN a n z P2 = v := ⟨_, rfl⟩
        rw [hv] at HVX
        by_cases hlt2 : s < t
        · have hv0 : v ≠ 0 := fun h => by
            have := HONE.out s (by omega) (by rw [HZ.out, hv]; exact h)
            omega
          have f2 : ((v : Int) != 0) = true := by simp; omega
          have hzn : z + P ≤ y := by
            rw [← HY.out, ← HZ.out]
            have := Nat.mul_le_mul_right P (show s + 1 ≤ t by omega)
            rw [Nat.add_mul, Nat.one_mul] at this
            omega
          clear hv hv0
          go_wp2_with (go_at_call 41; refine HVX.out.mono ?_; rintro e w' ⟨rfl, hw⟩; subst hw)
          go_round
          case rel => exact ⟨z + P, s + 1, by go_num, by rw [Nat.add_mul, Nat.one_mul, ← HZ.out]; omega, hlt2, hzn⟩
          case measure => simp only [intOf]; omega
        · obtain rfl : s = t := by omega
          obtain rfl : y = z := by rw [← HY.out, ← HZ.out]
          have hv0 : v = 0 := by
            rw [← hv]
            have h3 := HST.out.2.2
            rw [HP2E.out] at h3
            exact Cg.eq_nat (b := 0) ((vN_cg (by omega)).trans h3) (vN_lt (by omega)) (by omega)
          subst hv0
          clear hv
          go_wp2_with (go_at_call 41; refine HVX.out.mono ?_; rintro e w' ⟨rfl, hw⟩; subst hw)
          go_round
          case rel => exact ⟨y, P2, i + 1, rfl, by go_num, by omega, hilt, HP2E.out, hP2M, HST.out⟩
          case measure => simp only [intOf]; omega
    · have g1 : decide ((P : Int) < (M : Int)) = false := decide_eq_false (by omega)
      have hke : i = k := by
        rcases Nat.lt_or_ge i k with h | h
        · exfalso
          have h2 : p ^ i < p ^ k := Nat.pow_lt_pow_right (by omega) h
          rw [HPI.out, HM.out] at h2
          omega
        · omega
      have HX : Hid (Lf a n p k root x) := Lib.hid (by rw [← hke]; exact HLF.out)
      clear hke
      go_wp2
      go_ret2
      exact ⟨hb12, .inr (.inr (.inr ⟨HPL.out, HL.out, HPRE.out, x, by rw [Int.toNat_natCast]; exact HX.out, rfl⟩))⟩
end Go.Proofs.Ytkklacgoeopekaa

namespace Go.Proofs.Ytkklacgoeopekaa
open Go.RowKit
set_option linter.unusedVariables false

theorem pr_two_pow {p : Nat} (hp : Mr.Pr p) : ∀ j, p ∣ 2 ^ j → p = 2
  | 0, h => by
    have := Nat.le_of_dvd (by omega) h
    have := hp.1
    rw [Nat.pow_zero] at *
    omega
  | j + 1, h => by
    rw [Nat.pow_succ] at h
    rcases hp.dvd_mul h with h1 | h1
    · exact pr_two_pow hp j h1
    · have := Nat.le_of_dvd (by omega) h1
      have := hp.1
      omega
theorem ord_of_neg {p x n j : Nat} (hp : Mr.Pr p) (hp3 : 3 ≤ p) (hn : n = 2 ^ j) (h : x ^ n % p = p - 1) : Ordr p x (2 * n) := by
  have hc : Cg p ((x : Int) ^ n) (-1) := by
    have h1 : Cg p (((x ^ n : Nat) : Int)) ((p - 1 : Nat) : Int) := Cg.nat.2 (by rw [h, Nat.mod_eq_of_lt (by omega)])
    rw [Int.natCast_pow] at h1
    refine h1.trans ⟨1, ?_⟩
    rw [Int.ofNat_sub (by omega)]
    omega
  have hn0 : 0 < n := by rw [hn]; exact Nat.two_pow_pos j
  refine ordr_of (by omega) (U_cg.2 ?_) fun q hq hd hu => ?_
  · rw [Nat.mul_comm, Int.pow_mul]
    have := hc.pow 2
    simpa using this
  · have hq2 : q = 2 := pr_two_pow hq (j + 1) (by rw [Nat.pow_succ, ← hn, Nat.mul_comm]; exact hd)
    subst hq2
    rw [Nat.mul_div_cancel_left _ (by omega)] at hu
    have h1 := (U_cg.1 hu).symm.trans hc
    have h2 : (p : Int) ∣ 2 := by simpa [Cg] using h1
    have := Int.le_of_dvd (by omega) h2
    omega
theorem root_ord {k p x : Nat} (hd : dimF (k : Int)) (hp : Mr.Pr p) (hp3 : 3 ≤ p) (h : vN (cycF k) (k + 1) x p = 0) : Ordr p x (2 * k) := by
  unfold dimF at hd
  have hj : ∃ j, k = 2 ^ j := by
    have : k = 2 ∨ k = 4 ∨ k = 8 ∨ k = 16 ∨ k = 32 := by omega
    rcases this with rfl | rfl | rfl | rfl | rfl
    · exact ⟨1, rfl⟩
    · exact ⟨2, rfl⟩
    · exact ⟨3, rfl⟩
    · exact ⟨4, rfl⟩
    · exact ⟨5, rfl⟩
  obtain ⟨j, hj⟩ := hj
  refine ord_of_neg hp hp3 hj (Cg.mod_of ?_ (by omega))
  have h1 := vN_cg (a := cycF k) (n := k + 1) (x := x) (m := p) (by omega)
  rw [h, pv_cyc (by omega)] at h1
  have h2 := h1.symm.sub (Cg.refl p 1)
  have h3 : Cg p ((x : Int) ^ k) (-1) := by
    refine Cg.trans (Cg.of_eq ?_) (h2.trans (Cg.of_eq (by omega)))
    omega
  refine Cg.trans (Cg.of_eq (by simp)) (h3.trans ⟨-1, by omega⟩)

set_option maxRecDepth 100000 in
set_option maxHeartbeats 2000000 in
theorem rleast_any (k p ψ : Nat) (w : World) (hd : dimF (k : Int)) (hp3 : 3 ≤ p) (hp : p ≤ 65535) (hpr : Mr.Pr p) (hkp : k < p) (hle : Least p (2 * k) ψ) (hψ : 1 ≤ ψ) :
    Calls Try.prog 40 #[.int .i64 (k : Int), .int .u32 (p : Int)] w (RetV w (.int .u32 (ψ : Int))) := by
  have hk := dimF_nat hd
  have hk2 : 2 ≤ k ∧ k ≤ 32 := by unfold dimF at hd; omega
  have hψp := hle.2.1
  have hrt : Rt p k ψ := ⟨hpr, by omega, hle.1⟩
  have HPRE := Lib.hid (cyc_pre hrt (by omega) hkp)
  have HORD : Hid (∀ x, x < p → vN (cycF k) (k + 1) x p = 0 → ψ ≤ x) := Lib.hid (fun x hx h => hle.2.2 x hx (root_ord hd hpr hp3 h))
  have HN1 : Hid ((k : Int) + 1 = ((k + 1 : Nat) : Int)) := Lib.hid (by omega)
  clear hrt hle hk hd hpr
  go_enter Try.func40, Try.ntmps40
  go_wp2_with (at_make; refine wpl_make rfl _ _ _ rfl e64s .i64 .i64 _ _ (k + 1) rfl rfl HN1.out HN1.out (by omega) (by unfold maxLen; omega) ?_; intro w4 hr4 hb4 hs4; have k4 := hr4.cell (show 0 < k + 1 by omega); have f4 := hr4.frozen 0; have k5 := hr4.cell (show k < k + 1 by omega); have f5 := hr4.frozen k; simp only [ku] at k4 k5; have HR4 := Lib.hid hr4; clear hr4)
  have hr6 := rowIs_set_ku (rowIs_set_ku HR4.out 0 1) k 1
  have hsi : Si ((w4.setCell ⟨w.heap.size, 0, none⟩ (.int .i64 1)).setCell ⟨w.heap.size, k, none⟩ (.int .i64 1)) 0 _ (some ⟨w.heap.size, 0, none⟩) (k + 1) (cycF k) :=
    ⟨fun j hj => by unfold cycF cycN; rw [if_neg (by omega), if_neg (by omega)]; rfl, fun _ => ⟨w.heap.size, 0, rfl, Nat.zero_le _, hr6.lt, fun j hj => by rw [Nat.zero_add]; exact hr6.cell hj⟩⟩
  have hb36 := (hb4.setCell (p := ⟨w.heap.size, 0, none⟩) (Nat.le_refl _) (.int .i64 1)).setCell (p := ⟨w.heap.size, k, none⟩) (Nat.le_refl _) (.int .i64 1)
  have HSI := Lib.hid hsi
  have HB := Lib.hid hb36
  have HAT := Lib.hid (fun (x : Nat) (hx : x ≤ 2147483647) => rat_any (k + 1) (k + 1) x p 0 _ _ (cycF k) _ HSI.out (by omega) hx (by omega) (by omega))
  clear hr6 hsi hb36 k4 k5 f4 f5
  go_loop [6] (fun X => ∃ x : Nat, X = .int .u64 (x : Int) ∧ 1 ≤ x ∧ x ≤ ψ) (fun X => ψ - (intOf X).toNat)
  case atStart => exact ⟨1, rfl, Nat.le_refl _, hψ⟩
  case round =>
    obtain ⟨x, rfl, hx1, hxψ⟩ := hrel
    have HX := Lib.hid (HAT.out x (by omega))
    obtain ⟨v, hv⟩ : ∃ v, vN (cycF k) (k + 1) x p = v := ⟨_, rfl⟩
    rw [hv] at HX
    by_cases hlt : x < ψ
    · have hv0 : v ≠ 0 := fun h => by have := HORD.out x (by omega) (hv.trans h); omega
      have f1 : ((v : Int) != 0) = true := by simp; omega
      clear hv hv0
      go_wp2_with (go_at_call 41; refine HX.out.mono ?_; rintro e w' ⟨rfl, hw⟩; subst hw)
      go_round
      case rel => exact ⟨x + 1, by go_num, by omega, hlt⟩
      case measure => simp only [intOf]; omega
    · obtain rfl : ψ = x := by omega
      have hv0 : v = 0 := by rw [← hv]; exact HPRE.out.1
      subst hv0
      clear hv
      go_wp2_with (go_at_call 41; refine HX.out.mono ?_; rintro e w' ⟨rfl, hw⟩; subst hw)
      go_ret
      exact ⟨rfl, HB.out⟩
end Go.Proofs.Ytkklacgoeopekaa

namespace Go.Proofs.Ytkklacgoeopekaa
open Go.RowKit
set_option linter.unusedVariables false

def dimB (n : Int) : Bool := n == 2 || (n == 4 || (n == 8 || (n == 16 || n == 32)))
theorem dimB_yes {n : Int} : dimB n = true ↔ dimF n := by
  unfold dimB dimF
  simp only [Bool.or_eq_true, beq_iff_eq]
theorem rdim_any (n : Int) (w : World) : Calls Try.prog 13 #[.int .i64 n] w (RetP w (.bool (dimB n))) := by
  have hc : (n == 2) = true ∨ ((n == 2) = false ∧ (n == 4) = true) ∨ ((n == 2) = false ∧ (n == 4) = false ∧ (n == 8) = true) ∨ ((n == 2) = false ∧ (n == 4) = false ∧ (n == 8) = false ∧ (n == 16) = true) ∨ ((n == 2) = false ∧ (n == 4) = false ∧ (n == 8) = false ∧ (n == 16) = false ∧ (n == 32) = true) ∨ ((n == 2) = false ∧ (n == 4) = false ∧ (n == 8) = false ∧ (n == 16) = false ∧ (n == 32) = false) := by
    simp only [beq_iff_eq, beq_eq_false_iff_ne]
    omega
  rcases hc with d1 | ⟨d1, d2⟩ | ⟨d1, d2, d3⟩ | ⟨d1, d2, d3, d4⟩ | ⟨d1, d2, d3, d4, d5⟩ | ⟨d1, d2, d3, d4, d5⟩
  all_goals
    have HE := Lib.hid (show dimB n = _ by unfold dimB; simp only [*, Bool.true_or, Bool.false_or]; rfl)
    go_enter Try.func13, Try.ntmps13
    go_wp2
    go_ret
    exact ⟨by rw [HE.out]; rfl, rfl⟩
end Go.Proofs.Ytkklacgoeopekaa

namespace Go.Proofs.Ytkklacgoeopekaa
open Go.RowKit
set_option linter.unusedVariables false

theorem pl_one {p : Nat} {r : Int} (h : Pl p r) : Pl p 1 := ⟨h.1, h.2.1, h.2.2.1, by omega, by have := h.2.1; simp; omega⟩
theorem dgok_of {n : Int} {p : Nat} {r : Int} (h : dimF n ∧ Pl p r) : DgOk n p ∧ Pl p r := ⟨⟨h.1, pl_one h.2⟩, h.2⟩

/-- two lifts of one root are the same -/
theorem Lf.uniq {a : Nat → Int} {n p root : Nat} (hp : Mr.Pr p) (hd : dN a n root p ≠ 0) : ∀ {r : Nat}, 1 ≤ r → ∀ {x y : Nat}, Lf a n p r root x → Lf a n p r root y → x = y := by
  intro r hr
  induction r with
  | zero => omega
  | succ r ih =>
    intro x y hx hy
    have hp0 : 0 < p := by have := hp.1; omega
    rcases Nat.eq_zero_or_pos r with h0 | h0
    · subst h0
      have h1 := hx.1
      have h2 := hy.1
      rw [Nat.zero_add, Nat.pow_one] at h1 h2
      rw [← Nat.mod_eq_of_lt h1, ← Nat.mod_eq_of_lt h2, hx.2.1, hy.2.1]
    · have hpp : p ∣ p ^ r := ⟨p ^ (r - 1), by rw [Nat.mul_comm, ← Nat.pow_succ]; congr 1; omega⟩
      have hP0 : 0 < p ^ r := Nat.pow_pos hp0
      have low : ∀ {z : Nat}, Lf a n p (r + 1) root z → Lf a n p r root (z % p ^ r) := fun {z} hz => by
        have hc : Cg (p ^ r) ((z % p ^ r : Nat) : Int) (z : Int) := Cg.modN z
        refine ⟨Nat.mod_lt _ hP0, by rw [Nat.mod_mod_of_dvd _ hpp]; exact hz.2.1, (pv_cg a n hc).trans ?_⟩
        obtain ⟨c, hc⟩ := hz.2.2
        exact ⟨p * c, by rw [hc, Nat.pow_succ]; simp [Int.mul_assoc]⟩
      have he := ih h0 (low hx) (low hy)
      have hzx := Nat.div_add_mod x (p ^ r)
      have hzy := Nat.div_add_mod y (p ^ r)
      have htx : x / p ^ r < p := Nat.div_lt_of_lt_mul (by rw [← Nat.pow_succ]; exact hx.1)
      have hty : y / p ^ r < p := Nat.div_lt_of_lt_mul (by rw [← Nat.pow_succ]; exact hy.1)
      have ex : x % p ^ r + x / p ^ r * p ^ r = x := by rw [Nat.mul_comm]; omega
      have ey : x % p ^ r + y / p ^ r * p ^ r = y := by rw [he, Nat.mul_comm]; omega
      have hq := cand_uniq (t := x / p ^ r) (u := y / p ^ r) hp h0 hd (low hx) htx hty (by rw [ex, ← Nat.pow_succ]; exact hx.2.2) (by rw [ey, ← Nat.pow_succ]; exact hy.2.2)
      rw [← ex, ← ey, hq]
theorem FrIs.uniq {n p r x y : Nat} (hr : 1 ≤ r) (hn : 1 ≤ n) (hnp : n < p) (h : FrIs n p r x) (h' : FrIs n p r y) : x = y := by
  obtain ⟨ψ, hl, hrt, hlt, hx⟩ := h
  obtain ⟨ψ', hl', hrt', hlt', hy⟩ := h'
  obtain rfl := hl.uniq hl'
  exact Lf.uniq hrt.pr (cyc_pre hrt hn hnp).2 hr hx hy

set_option maxRecDepth 100000 in
set_option maxHeartbeats 4000000 in
theorem rroot_any (n : Int) (p : Nat) (r : Int) (w : World) (hp : p ≤ 4294967295) (hr : r ≤ 9223372036854775807) : Calls Try.prog 21 #[.int .i64 n, .int .u32 p, .int .i64 r] w (RetFr w n p r) := by
  have HM := Lib.hid (rmodulus_any p r w hp)
  have HD := Lib.hid (fun w' => rdim_any n w')
  go_enter Try.func21, Try.ntmps21
  go_wp2_with fail
  (with_reducible refine HM.out.mono ?_)
  rintro e w1 ⟨hb1, hh⟩
  have hz1 := hb1.size
  by_cases hok : dimF n ∧ Pl p r
  rotate_left
  · have HN : Hid (¬ (DgOk n p ∧ Pl p r)) := Lib.hid fun h => hok ⟨h.1.1, h.2⟩
    have hc : (¬ Pl p r ∧ e = .returned (.tuple #[.int .u64 0, .bool false]) ∧ ((dimB n = true) ∨ dimB n = false)) ∨ (∃ v, e = .returned (.tuple #[.int .u64 v, .bool true]) ∧ dimB n = false) := by
      rcases hh with ⟨hpl, rfl⟩ | ⟨hpl, rfl⟩
      · refine .inr ⟨_, rfl, ?_⟩
        cases hb : dimB n with
        | false => rfl
        | true => exact absurd ⟨dimB_yes.1 hb, hpl⟩ hok
      · exact .inl ⟨hpl, rfl, by cases dimB n <;> simp⟩
    clear hok hh
    have HDW := Lib.hid (HD.out w1)
    rcases hc with ⟨_, rfl, h1 | h1⟩ | ⟨v, rfl, h1⟩
    all_goals
      rw [h1] at HDW
      clear h1
      go_wp2_with (go_at_call 13; refine HDW.out.mono ?_; rintro e w' ⟨rfl, hw⟩; subst hw)
      go_ret2
      exact ⟨hb1, .inl ⟨HN.out, rfl⟩⟩
  rcases hh with ⟨_, rfl⟩ | ⟨hno, _⟩
  rotate_left
  · exact absurd hok.2 hno
  have HDG := Lib.hid (dgok_of hok).1
  have HPL := Lib.hid hok.2
  have HDW := Lib.hid (HD.out w1)
  rw [dimB_yes.2 hok.1] at HDW
  clear hok
  obtain ⟨k, rfl, hk2, hk32⟩ := dimF_nat HDG.out.1
  have hp3 := HPL.out.1
  have hp6 := HPL.out.2.1
  obtain ⟨m, hm⟩ : ∃ m, p % (2 * k) = m := ⟨_, rfl⟩
  have hmi : (p : Int) % (2 * (k : Int)) = (m : Int) := by rw [← hm]; simp
  have hmt : (p : Int).tmod (2 * (k : Int)) = (m : Int) := by rw [Int.tmod_eq_emod_of_nonneg (by omega), hmi]
  have hmb : m < 2 * k := by rw [← hm]; exact Nat.mod_lt _ (by omega)
  have HM2 := Lib.hid hm
  clear hm
  by_cases hm1 : m = 1
  rotate_left
  · have f1 : ((m : Int) != 1) = true := by simp; omega
    have HN : Hid (p % (2 * (k : Int).toNat) ≠ 1) := Lib.hid (by rw [Int.toNat_natCast, HM2.out]; exact hm1)
    clear hm1
    go_wp2_with (go_at_call 13; refine HDW.out.mono ?_; rintro e w' ⟨rfl, hw⟩; subst hw)
    go_ret2
    exact ⟨hb1, .inr (.inl ⟨⟨HDG.out, HPL.out⟩, HN.out, rfl⟩)⟩
  subst hm1
  have f1 : (((1 : Nat) : Int) != 1) = false := by simp
  have hpp := HPL.out.2.2.1
  have hdv : 2 * k ∣ p - 1 := ⟨p / (2 * k), by have := HM2.out; have := Nat.div_add_mod p (2 * k); omega⟩
  have hkp : k < p := by have := Nat.le_of_dvd (by omega) hdv; omega
  obtain ⟨v, hle⟩ := exists_least hpp (show 0 < 2 * k by omega) hdv
  have hv1 := hle.pos hpp
  have hrt : Rt p k v := ⟨hpp, by omega, hle.1⟩
  have hvp := hle.2.1
  have hpre := cyc_pre hrt (by omega) hkp
  have HIS : Hid (∀ x, Lf (cycF k) (k + 1) p r.toNat v x → FrIs k p r.toNat x) := Lib.hid (fun x h => ⟨v, hle, hrt, hvp, h⟩)
  have HPRE := Lib.hid hpre
  have HLE := Lib.hid (fun w => rleast_any k p v w HDG.out.1 hp3 hp6 hpp hkp hle hv1)
  have HN1 : Hid ((k : Int) + 1 = ((k + 1 : Nat) : Int)) := Lib.hid (by omega)
  clear hrt hpre hle hdv hpp
  have hk1 : 0 < k + 1 := by omega
  go_wp2_with (first | (go_at_call 13; refine HDW.out.mono ?_; rintro e w' ⟨rfl, hw⟩; subst hw) | (at_make; refine wpl_make rfl _ _ _ rfl e64s .i64 .i64 _ _ (k + 1) rfl rfl HN1.out HN1.out (by omega) (by unfold maxLen; omega) ?_; intro w4 hr4 hb4 hs4; have k4 := hr4.cell (show 0 < k + 1 by omega); have f4 := hr4.frozen 0; have k5 := hr4.cell (show k < k + 1 by omega); have f5 := hr4.frozen k; simp only [ku] at k4 k5; have HR4 := Lib.hid hr4; clear hr4))
  have hr6 := rowIs_set_ku (rowIs_set_ku HR4.out 0 1) k 1
  have hsi : Si ((w4.setCell ⟨w1.heap.size, 0, none⟩ (.int .i64 1)).setCell ⟨w1.heap.size, k, none⟩ (.int .i64 1)) 0 _ (some ⟨w1.heap.size, 0, none⟩) (k + 1) (cycF k) :=
    ⟨fun j hj => by unfold cycF cycN; rw [if_neg (by omega), if_neg (by omega)]; rfl, fun _ => ⟨w1.heap.size, 0, rfl, Nat.zero_le _, hr6.lt, fun j hj => by rw [Nat.zero_add]; exact hr6.cell hj⟩⟩
  have hb36 := (hb4.setCell (p := ⟨w1.heap.size, 0, none⟩) (Nat.le_refl _) (.int .i64 1)).setCell (p := ⟨w1.heap.size, k, none⟩) (Nat.le_refl _) (.int .i64 1)
  have hb16 := hb1.trans (hb36.mono hb1.size)
  have HB := Lib.hid hb16
  have HS := Lib.hid hsi
  clear hr6 hsi hb36 hb16 k4 k5 f4 f5
  refine (HLE.out _).mono ?_
  rintro e w5 ⟨rfl, hb5⟩
  have hb15 := HB.out.trans (hb5.mono HB.out.size)
  have hsi5 := HS.out.below hb5 (Nat.le_refl _)
  have HB5 := Lib.hid hb15
  have HLF := Lib.hid (rlift_any (k + 1) (k + 1) p v 0 _ r _ (cycF k) _ hsi5 (by omega) hp hr (by omega) hb5.size)
  clear hb15 hsi5 hb5
  go_wp2_with fail
  (with_reducible refine HLF.out.mono ?_)
  rintro e w7 ⟨hb7, hh⟩
  have hb17 := HB5.out.trans (hb7.mono HB5.out.size)
  rcases hh with ⟨h1, _⟩ | ⟨_, h1, _⟩ | ⟨_, _, h1, _⟩ | ⟨_, _, _, x, hx, rfl⟩
  · exact absurd ⟨HPL.out, hvp⟩ h1
  · omega
  · exact absurd HPRE.out h1
  have HX : Hid (FrIs k p r.toNat x) := Lib.hid (HIS.out x hx)
  have HOK : Hid (FrOk (k : Int) p r) := Lib.hid ⟨HDG.out, HPL.out, by rw [Int.toNat_natCast]; exact HM2.out⟩
  clear hx
  go_wp2
  go_ret2
  exact ⟨hb17, .inr (.inr ⟨HOK.out, x, by rw [Int.toNat_natCast]; exact HX.out, rfl⟩)⟩
end Go.Proofs.Ytkklacgoeopekaa

namespace Go.Proofs.Ytkklacgoeopekaa
open Go.RowKit
set_option linter.unusedVariables false

theorem sqz_arg {w : World} {a : Option Addr} {len cap : Nat} {zs : List Int}
    (h : (a = none ∧ len = 0 ∧ cap = 0 ∧ zs = []) ∨ ∃ x, a = some x ∧ len ≤ cap ∧ cap ≤ maxLen ∧ zs.length = cap ∧ (∀ i, i < zs.length → w.cell? (x.add i) = some (.int .i64 (zs.getD i 0))) ∧ ∀ n ∈ zs, (Lit.int .i64 n).wf = true) :
    ∃ f, Z.Sq .i64 w 0 w.heap.size a len f ∧ len ≤ 9223372036854775807 := by
  rcases h with ⟨rfl, rfl, rfl, rfl⟩ | ⟨x, rfl, hl, hm, hz, hc, hw⟩
  · exact ⟨fun _ => 0, Z.Sq.nil _ _ _ _ _, by omega⟩
  · refine ⟨fun j => if j < len then zs.getD j 0 else 0, ⟨fun j hj => if_neg (by omega), fun hn => ?_⟩, by unfold maxLen at hm; omega⟩
    obtain ⟨b, off, spot⟩ := x
    have h0 := hc 0 (by omega)
    have hspot : spot = none := by simpa [Addr.add] using World.cell?_spot h0
    subst hspot
    refine ⟨b, off, rfl, Nat.zero_le _, by simpa [Addr.add] using World.block_lt_of_cell? w _ h0, fun j hj => ?_⟩
    have e1 : (⟨b, off, none⟩ : Addr).add j = ⟨b, off + j, none⟩ := by
      unfold Addr.add
      split
      · simp
      · rfl
    have h1 := hc j (by omega)
    rw [e1] at h1
    rw [h1]
    show some (Value.int .i64 (zs.getD j 0)) = some (.int .i64 (if j < len then zs.getD j 0 else 0))
    rw [if_pos hj]
end Go.Proofs.Ytkklacgoeopekaa

namespace Go.Proofs.Ytkklacgoeopekaa
open Go.RowKit
set_option linter.unusedVariables false

theorem sqz_arg2 {w : World} {a : Option Addr} {len cap : Nat} {zs : List Int}
    (h : (a = none ∧ len = 0 ∧ cap = 0 ∧ zs = []) ∨ ∃ x, a = some x ∧ len ≤ cap ∧ cap ≤ maxLen ∧ zs.length = cap ∧ (∀ i, i < zs.length → w.cell? (x.add i) = some (.int .i64 (zs.getD i 0))) ∧ ∀ n ∈ zs, (Lit.int .i64 n).wf = true) :
    ∃ f, Z.Sq .i64 w 0 w.heap.size a len f ∧ len ≤ cap ∧ cap ≤ 9223372036854775807 := by
  obtain ⟨f, h1, _⟩ := sqz_arg h
  refine ⟨f, h1, ?_⟩
  rcases h with ⟨_, rfl, rfl, _⟩ | ⟨x, _, hl, hm, _⟩
  · exact ⟨Nat.le_refl _, Nat.zero_le _⟩
  · exact ⟨hl, by unfold maxLen at hm; omega⟩
end Go.Proofs.Ytkklacgoeopekaa
