/- The law PolysPlans of layer 25. -/
import Derived.Test.YtmidpholmgmdpaaFm25
import Derived.Test.YtmidpholmgmdpaaLT25
import Derived.Test.YtmidpholmgmdpaaRD25
namespace Go.Proofs.Ytmidpholmgmdpaa
open Go.RowKit
set_option linter.unusedVariables false

theorem StpAt.wideH {w : World} {hi hi' g o : Nat} {s : PS} (h : StpAt w hi g o s) (hh : hi ≤ hi') : StpAt w hi' g o s := by
  obtain ⟨h0, h1, h2, h3, C, c, h4, h5, h6⟩ := h
  exact ⟨h0, h1, h2, h3, C, c, h4, h5.wide (Nat.le_refl _) hh, h6⟩
theorem Pln.wideH {w : World} {hi hi' n : Nat} {A : Option Addr} {s : Nat → PS} (h : Pln w hi A n s) (hh : hi ≤ hi') : Pln w hi' A n s := fun hn => by
  obtain ⟨g, off, hA, hg, hc⟩ := h hn
  exact ⟨g, off, hA, by omega, fun i hi2 => (hc i hi2).wideH hh⟩
theorem Pln.next {w w' : World} {n : Nat} {A : Option Addr} {s : Nat → PS} (h : Pln w w.heap.size A n s) (hb : Below w.heap.size w w') : Pln w' w'.heap.size A n s := (h.below hb).wideH hb.size
theorem MkLaw.depth {t m : Nat} {a : Nat → Int} {σ : MSt} (h : MkLaw t m a σ) (hm : m ≤ 256) (hp : PolyOk t m a) : depD σ.s σ.n = ((kk m : Nat) : Int) := by
  obtain ⟨k1, k2, _⟩ := kk_law hm
  have h1 := h.dep (kk m) k1
  have h2 := (depD_bound h.ok σ.n (Nat.le_refl _)).1
  rcases k2 with k2 | k2
  · omega
  · rcases Int.lt_or_le (depD σ.s σ.n) ((kk m : Nat) : Int) with h3 | h3
    · have h4 := Nat.pow_le_pow_right (show 0 < 2 by omega) (show (depD σ.s σ.n).toNat ≤ kk m - 1 by omega)
      have h5 := plD_deg h.ok σ.n (Nat.le_refl _) (m - 1) (Nat.lt_of_le_of_lt h4 k2)
      rw [h.pl] at h5
      exact absurd h5 (hp.2 (Nat.lt_of_lt_of_le (Nat.lt_of_le_of_lt (Nat.zero_le _) k2) (Nat.sub_le m 1)))
    · omega
theorem MkLaw.prods {t m : Nat} {a : Nat → Int} {σ : MSt} (h : MkLaw t m a σ) : ((mcnt σ.s σ.n : Nat) : Int) ≤ prodB m := by
  obtain ⟨sp, h1, h2⟩ := h.cnt
  unfold prodB
  by_cases hm : m - 1 < 1
  · rw [if_pos hm]
    have e : kk m = 0 := by
      unfold kk
      rw [show m - 2 = 0 by omega]
      decide
    rw [e] at h1 h2
    have h3 : sp * 1 ≤ m - 2 := h1
    have h4 : mcnt σ.s σ.n + 1 + 0 ≤ 1 + 0 + sp := h2
    omega
  · rw [if_neg hm]
    obtain ⟨B, hB⟩ : ∃ B, 2 ^ ((kk m + 1) / 2) = B := ⟨_, rfl⟩
    obtain ⟨b, hb⟩ : ∃ b, (kk m + 1) / 2 = b := ⟨_, rfl⟩
    have hBp : 0 < B := by rw [← hB]; exact Nat.pow_pos (by omega)
    rw [hB] at h1 h2 ⊢
    rw [hb] at h2 ⊢
    have h3 : sp + 1 ≤ (m - 1 + B - 1) / B := (Nat.le_div_iff_mul_le hBp).2 (by rw [Nat.add_mul]; omega)
    omega
theorem len_uniq {f : Nat → Int} {m n : Nat} (h1 : ∀ q, m ≤ q → f q = 0) (h2 : 0 < m → f (m - 1) ≠ 0) (h3 : ∀ q, n ≤ q → f q = 0) (h4 : 0 < n → f (n - 1) ≠ 0) : m = n := by
  rcases Nat.lt_trichotomy m n with h | h | h
  · exact absurd (h1 (n - 1) (by omega)) (h4 (by omega))
  · exact h
  · exact absurd (h3 (m - 1) (by omega)) (h2 (by omega))
theorem mcnt_succ (s : Nat → PS) (i : Nat) : mcnt s (i + 1) = mcnt s i + if (s i).mul = true then 1 else 0 := rfl
theorem mcnt_le (s : Nat → PS) (i : Nat) : mcnt s i ≤ i := by
  induction i with
  | zero => exact Nat.le_refl _
  | succ i ih => rw [mcnt_succ]; split <;> omega

set_option maxRecDepth 100000 in
set_option maxHeartbeats 40000000 in
theorem polysPlans_any (t m c : Nat) (A : Option Addr) (a : Nat → Int) (w : World) (ht : t ≤ 4294967295) (ha : Z.Sq .i64 w 0 w.heap.size A m a) (hmc : m ≤ c) (hcap : c ≤ 9223372036854775807) :
    Calls Try.prog 5 #[.int .u32 t, .slice A m c] w (RetV w (.bool true)) := by
  have HA := Lib.hid ha
  clear ha
  by_cases hbig : 1000 < m
  · have d2 : decide ((m : Int) > 1000) = true := decide_eq_true (by omega)
    have HW := Lib.hid (awake25_any w)
    go_enter Try.func5, Try.ntmps5
    go_wp2_with fail
    refine HW.out.mono ?_
    rintro e w1 ⟨rfl, hb1⟩
    go_wp2_with fail
    go_ret
    exact ⟨rfl, hb1⟩
  have d2 : decide ((m : Int) > 1000) = false := decide_eq_false (by omega)
  have d2' : decide (1000 < m) = false := decide_eq_false (by omega)
  have HOE : Hid (Z.Own .i64 (w.alloc (.cells #[] 2)) w.heap.size 2 (some ⟨w.heap.size, 0, none⟩) 0 0 (fun _ => 0)) := Lib.hid (ZOwn.empty (Nat.le_refl _))
  have HY1 := Lib.hid (HA.out.below ((Below.refl w.heap.size w).alloc (Nat.le_refl _) (.cells #[] 2)) (Nat.le_refl _))
  have HB0 : Hid (Below w.heap.size w (w.alloc (.cells #[] 2))) := Lib.hid ((Below.refl w.heap.size w).alloc (Nat.le_refl _) _)
  go_enter Try.func5, Try.ntmps5
  go_wp2_with (at_builtin; refine Z.wpl_append rfl _ _ _ rfl e64s' rfl HOE.out rfl HY1.out a (fun j hj => absurd hj (Nat.not_lt_zero j)) (fun j => by rw [Nat.zero_add]) (by unfold maxLen; omega) (by omega) (by simp) ?_; intro A1 c1 w1 hown1 hg1 hb1 hat1)
  have HB1 := Lib.hid (HB0.out.trans hb1)
  have HO1 := Lib.hid hown1
  rw [Nat.zero_add] at HO1
  have hmc1 := HO1.out.le
  have hcm1 : c1 ≤ 9223372036854775807 := by
    rcases HO1.out.cases with ⟨_, _, h0⟩ | ⟨g, _, _, _, _, h0, _⟩
    · omega
    · unfold maxLen at h0; omega
  clear hown1 hg1 hb1 hat1
  have hz1 := HB1.out.size
  have HMK := Lib.hid (make25_any t m c1 A1 a w1 ht (HO1.out.sq (Nat.zero_le _)) hmc1 hcm1)
  refine HMK.out.mono ?_
  rintro e w2 ⟨hb2, hh⟩
  have hz2 := hb2.size
  have HB2 := Lib.hid (HB1.out.trans (hb2.mono hz1))
  have HOW := Lib.hid ((HO1.out.sq (Nat.zero_le _)).below hb2 (Nat.le_refl _))
  have HY2 := Lib.hid (HA.out.below HB2.out (Nat.le_refl _))
  have HSM := Lib.hid (same25_any m m c1 c A1 A a a w2 _ _ _ _ HOW.out HY2.out (by omega) (by omega) hz2 (by omega))
  clear hb2 HMK
  rcases hh with ⟨hE, rfl⟩ | ⟨hE, σ, A2, c2, hmr, rfl, hpl⟩
  · obtain ⟨E, hEe⟩ : ∃ E, polyE t m a = E := ⟨_, rfl⟩
    have HEE := Lib.hid hEe
    rw [hEe] at hE ⊢
    have e1 : (E != 0) = true := by rw [bne_iff_ne]; exact hE
    have e2 : (E == E) = true := by simp
    clear hE hEe
    go_wp2_with fail
    refine HSM.out.mono ?_
    rintro e w3 hh3
    obtain ⟨rfl, hb3⟩ := hh3.yes ⟨rfl, fun j _ => rfl⟩
    clear hh3
    have HB3 := Lib.hid (HB2.out.trans (hb3.mono HB2.out.size))
    clear hb3
    have HPO := Lib.hid (rpoly25_any t m c _ A a w3 ht (HA.out.below HB3.out (Nat.le_refl _)) HB3.out.size (by omega))
    rw [HEE.out] at HPO
    go_wp2_with (go_at_call 14; refine HPO.out.mono ?_; rintro e w' ⟨rfl, hw⟩; subst hw)
    refine (awake25_any w3).mono ?_
    rintro e w4 ⟨rfl, hb4⟩
    go_wp2_with fail
    go_ret
    exact ⟨rfl, HB3.out.trans (hb4.mono HB3.out.size)⟩
  have hmod : modB t = true := by
    unfold polyE at hE
    by_cases h : modB t = true
    · exact h
    · rw [if_neg h] at hE; cases hE
  have hbig2 : m ≤ 256 := by
    unfold polyE at hE
    rw [if_pos hmod] at hE
    by_cases h : 256 < m
    · rw [if_pos h] at hE; cases hE
    · omega
  have hpok : PolyOk t m a := by
    unfold polyE at hE
    rw [if_pos hmod, if_neg (by omega)] at hE
    by_cases h : PolyOk t m a
    · exact h
    · rw [if_neg h] at hE; cases hE
  obtain ⟨ht3, htm, hodd⟩ := modB_yes.1 hmod
  have hlaw := hmr.law ht3 hbig2 HA.out.1 hpok
  have HE := Lib.hid hE
  have HPK := Lib.hid hpok
  have HLAW := Lib.hid hlaw
  have HDP := Lib.hid (hlaw.depth hbig2 hpok)
  have HPRD := Lib.hid hlaw.prods
  have HCHK := Lib.hid (hlaw.chk hmod)
  have hn6 := hlaw.le
  have hn0 := hlaw.pos
  have HK8 := Lib.hid (kk_law hbig2).2.2
  have HPL := Lib.hid hpl
  clear hE hmod hpok hlaw hmr hpl
  obtain ⟨n, hn⟩ : ∃ n, σ.n = n := ⟨_, rfl⟩
  have HN := Lib.hid hn
  rw [hn] at hn6 hn0 HDP HPRD HCHK HPL ⊢
  clear hn
  go_wp2_with fail
  refine HSM.out.mono ?_
  rintro e w3 hh3
  obtain ⟨rfl, hb3⟩ := hh3.yes ⟨rfl, fun j _ => rfl⟩
  clear hh3
  have HB3 := Lib.hid (HB2.out.trans (hb3.mono HB2.out.size))
  have HPL3 := Lib.hid (HPL.out.next hb3)
  clear hb3
  have HPO := Lib.hid (rpoly25_any t m c _ A a w3 ht (HA.out.below HB3.out (Nat.le_refl _)) HB3.out.size (by omega))
  rw [HE.out] at HPO
  have HRC := Lib.hid (rcheck25_any t n c2 A2 σ.s w3 ht HPL3.out (by omega))
  rw [HCHK.out] at HRC
  have e0 : ((n : Int) == 0) = false := by rw [beq_eq_false_iff_ne]; omega
  have e0' : (n == 0) = false := by rw [beq_eq_false_iff_ne]; omega
  have e0'' : ¬ n = 0 := by omega
  go_wp2_with (go_at_call 14; refine HPO.out.mono ?_; rintro e w' ⟨rfl, hw⟩; subst hw)
  refine HRC.out.mono ?_
  rintro e w4 ⟨rfl, hb4⟩
  have HB4 := Lib.hid (HB3.out.trans (hb4.mono HB3.out.size))
  have HPL4 := Lib.hid (HPL3.out.next hb4)
  clear hb4 HRC HPO
  go_wp2_with fail
  rw [show max (0 : Int) ((m : Int) - 1) = ((m - 1 : Nat) : Int) from by omega]
  go_loopw [10, 11] (fun C I w' => ∃ i : Nat, I = .int .i64 (i : Int) ∧ i ≤ n ∧ C = .int .i64 ((mcnt σ.s i : Nat) : Int) ∧ w' = w4) (fun _ I _ => n - (intOf I).toNat)
  case atStart => exact ⟨0, rfl, Nat.zero_le _, rfl, by trivial⟩
  case round =>
    obtain ⟨i, rfl, hi, rfl, rfl⟩ := hrel
    by_cases hin : i < n
    · have e3 : decide ((i : Int) < (n : Int)) = true := decide_eq_true (by omega)
      obtain ⟨g, off, hAe, hg, hst⟩ := HPL4.out hn0
      obtain ⟨k0, _⟩ := hst i hin
      rw [hAe]
      have i0 : 0 ≤ (i : Int) := by omega
      have i1 : (i : Int) < (n : Int) := by omega
      have h5 := mcnt_le σ.s i
      have HMC := Lib.hid (mcnt_succ σ.s i)
      obtain ⟨M, hM⟩ : ∃ M, mcnt σ.s i = M := ⟨_, rfl⟩
      rw [hM] at HMC h5
      rw [hM]
      cases hmu : (σ.s i).mul with
      | true =>
        rw [hmu] at k0 HMC
        have HMV : Hid (((mcnt σ.s (i + 1) : Nat) : Int) = (M : Int) + 1) := Lib.hid (by have := HMC.out; rw [if_pos rfl] at this; omega)
        clear hst hAe hmu hM
        go_wp2
        go_roundw
        case rel => exact ⟨i + 1, by go_num, hin, by rw [HMV.out], by trivial⟩
        case measure => simp only [intOf]; omega
      | false =>
        rw [hmu] at k0 HMC
        have HMV : Hid (((mcnt σ.s (i + 1) : Nat) : Int) = (M : Int)) := Lib.hid (by have := HMC.out; rw [if_neg Bool.false_ne_true] at this; omega)
        clear hst hAe hmu hM
        go_wp2
        go_roundw
        case rel => exact ⟨i + 1, by go_num, hin, by rw [HMV.out], by trivial⟩
        case measure => simp only [intOf]; omega
    · obtain rfl : n = i := by omega
      have e3 : decide ((n : Int) < (n : Int)) = false := decide_eq_false (by omega)
      have HRD := Lib.hid (rdepth25_any t n c2 A2 σ.s wr ht HPL4.out (by omega))
      have e4 : depV t n σ.s = ((kk m : Nat) : Int) := by unfold depV; rw [if_pos HCHK.out, HDP.out]
      rw [e4, HCHK.out] at HRD
      have h8 := HK8.out
      obtain ⟨K, hK⟩ : ∃ K, kk m = K := ⟨_, rfl⟩
      have HLE := Lib.hid (fun W : World => rleast25_any m W hbig2)
      have HPB := Lib.hid (fun W : World => rproducts25_any m W hbig2)
      have h9 := mcnt_le σ.s n
      have h10 := HPRD.out
      have HOKP := Lib.hid (HN.out ▸ HLAW.out.ok)
      have HPD : Hid (plD σ.s n = a) := Lib.hid (by rw [← HN.out]; exact HLAW.out.pl)
      have hd8 : depD σ.s n ≤ 8 := by rw [HDP.out]; omega
      have HD8 := Lib.hid hd8
      rw [hK] at HRD HLE h8
      obtain ⟨B, hB⟩ : ∃ B, prodB m = B := ⟨_, rfl⟩
      obtain ⟨M, hM⟩ : ∃ M, mcnt σ.s n = M := ⟨_, rfl⟩
      rw [hB] at HPB h10
      rw [hM] at h9 h10 ⊢
      have e5 : (((K : Nat) : Int) != ((K : Nat) : Int)) = false := by simp
      have e6 : decide ((M : Int) > B) = false := decide_eq_false (by omega)
      have e7 : decide (B < (M : Int)) = false := decide_eq_false (by omega)
      clear e4 hK hB hM hd8
      go_wp2_with fail
      refine HRD.out.mono ?_
      rintro e w5 ⟨rfl, hb5⟩
      have HB5 := Lib.hid (HB4.out.trans (hb5.mono HB4.out.size))
      have HPL5 := Lib.hid (HPL4.out.next hb5)
      clear hb5 HRD
      have HFM := Lib.hid (rformal25_any t n c2 A2 σ.s w5 ht3 htm hodd HPL5.out HOKP.out hn6 HD8.out)
      go_wp2_with (first | (go_at_call 19; refine (HLE.out _).mono ?_; rintro e w' ⟨rfl, hw⟩; subst hw) | (go_at_call 20; refine (HPB.out _).mono ?_; rintro e w' ⟨rfl, hw⟩; subst hw))
      refine HFM.out.mono ?_
      rintro e w6 ⟨A6, m6, c6, rfl, hsq6, hm6, hmin6, hb6⟩
      rw [HPD.out] at hsq6 hmin6
      have HBAL : Hid (∀ q, bal t (a q) = a q) := Lib.hid fun q => bal_of hodd (Cg.refl t _) (by
        by_cases hq : q < m
        · exact balB_yes.1 (HPK.out.1 q hq)
        · rw [HA.out.1 q (by omega)]; omega)
      have hmm : m6 = m := len_uniq (f := a) (fun q hq => by rw [← HBAL.out]; exact hsq6.1 q hq) (fun h => by rw [← HBAL.out]; exact hmin6 h) HA.out.1 HPK.out.2
      subst hmm
      have HSQ6 := Lib.hid (hsq6.congr HBAL.out)
      have hz6 := hb6.size
      have HB6 := Lib.hid (HB5.out.trans (hb6.mono HB5.out.size))
      have HY6 := Lib.hid (HA.out.below HB6.out (Nat.le_refl _))
      have HSM6 := Lib.hid (same25_any m6 m6 c6 c A6 A a a w6 _ _ _ _ HSQ6.out HY6.out (by omega) (by omega) (Nat.le_refl _) HB6.out.size)
      clear hsq6 hmin6 hb6 HFM
      go_wp2_with fail
      refine HSM6.out.mono ?_
      rintro e w7 hh7
      obtain ⟨rfl, hb7⟩ := hh7.yes ⟨rfl, fun j _ => rfl⟩
      clear hh7
      have HB7 := Lib.hid (HB6.out.trans (hb7.mono HB6.out.size))
      clear hb7
      go_wp2_with fail
      refine (awake25_any w7).mono ?_
      rintro e w8 ⟨rfl, hb8⟩
      go_wp2_with fail
      go_ret
      exact ⟨rfl, HB7.out.trans (hb8.mono HB7.out.size)⟩
end Go.Proofs.Ytmidpholmgmdpaa
