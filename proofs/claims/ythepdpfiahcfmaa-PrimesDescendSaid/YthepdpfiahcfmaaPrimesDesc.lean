/- The walk of the law PrimesDescend: it returns true. -/
import Derived.Test.YthepdpfiahcfmaaShown3
namespace Go.Proofs.Ythepdpfiahcfmaa
open Go.RowKit
set_option linter.unusedVariables false

theorem chl_get {F : Nat → Nat} : ∀ j i, i < (chl F j).length → ∃ a, a < j ∧ (chl F j).getD i 0 = F a ∧ Mr.Pr (F a) ∧ (chl F a).length = i
  | 0, i, h => absurd h (Nat.not_lt_zero i)
  | j + 1, i, h => by
    rcases Nat.lt_or_ge i (chl F j).length with h1 | h1
    · obtain ⟨a, h2, h3, h4, h5⟩ := chl_get j i h1
      refine ⟨a, by omega, ?_, h4, h5⟩
      rw [chl_succ, List.getD_eq_getElem?_getD, List.getElem?_append_left h1, ← List.getD_eq_getElem?_getD, h3]
    · by_cases hp : Mr.Pr (F j)
      · rw [chl_yes hp, List.length_append, List.length_singleton] at h
        have he : i = (chl F j).length := by omega
        refine ⟨j, by omega, ?_, hp, he.symm⟩
        rw [chl_yes hp, List.getD_eq_getElem?_getD, List.getElem?_append_right h1, he]
        simp
      · rw [chl_no hp] at h
        omega
theorem chl_first {F : Nat → Nat} {a b : Nat} (h : (chl F a).length = 0) (hb : b < a) : ¬ Mr.Pr (F b) := fun hp => by
  have h1 := chl_le (F := F) (show b + 1 ≤ a from hb)
  rw [chl_yes hp, List.length_append, List.length_singleton] at h1
  omega
theorem chl_gap {F : Nat → Nat} {a a' b i : Nat} (h : (chl F a).length = i + 1) (h' : (chl F a').length = i) (hp' : Mr.Pr (F a')) (hb' : a' < b) (hb : b < a) : ¬ Mr.Pr (F b) := fun hp => by
  have h1 := chl_le (F := F) (show b + 1 ≤ a from hb)
  have h2 := chl_le (F := F) (show a' + 1 ≤ b from hb')
  rw [chl_yes hp, List.length_append, List.length_singleton] at h1
  rw [chl_yes hp', List.length_append, List.length_singleton] at h2
  omega
theorem dnF_sub {s K a b : Nat} (h : b ≤ a) (ha : a ≤ K) : dnF s K b = dnF s K a + (a - b) * s := by
  unfold dnF
  rw [show K - b = (K - a) + (a - b) by omega, Nat.add_mul]
  omega
/-- what the law asks of one prime of the chain -/
theorem desc_fact {s K j i k t : Nat} {l : List Nat} (hs : 2 * k * t = s) (hk : 4 ≤ k) (ht : 3 ≤ t) (hK : (2147483648 - 2) / s = K) (hj : j ≤ K) (hup : ∀ i, i < j → 1073741824 < dnF s K i) (hl : chl (dnF s K) j = l) (hi : i < l.length) :
    ∃ p H, l.getD i 0 = p ∧ (if i = 0 then 2147483648 else l.getD (i - 1) 0) = H ∧ p < H ∧ H ≤ 2147483648 ∧ 1073741824 < p ∧ p % k = 1 ∧ p % t = 1 ∧ (p - 1) % s = 0 ∧ Mr.Pr p ∧ ∀ m, 1 ≤ m → p + m * s < H → ¬ Mr.Pr (p + m * s) := by
  have hs0 : 0 < s := by rw [← hs]; exact Nat.mul_pos (by omega) (by omega)
  have hge : ∀ b, b ≤ K → 1 ≤ dnF s K b := fun b _ => by unfold dnF; omega
  rw [← hl] at hi
  obtain ⟨a, h1, h2, h3, h4⟩ := chl_get j i hi
  rw [hl] at h2
  have hval : dnF s K a = (K - a) * s + 1 := rfl
  have hle := dn_le (L := 2147483648) (j := a) hK.symm (by omega)
  have base : dnF s K a % k = 1 ∧ dnF s K a % t = 1 ∧ (dnF s K a - 1) % s = 0 := by
    rw [hval, Nat.add_sub_cancel, Nat.mul_mod_left, ← hs]
    refine ⟨?_, ?_, rfl⟩
    · rw [show (K - a) * (2 * k * t) + 1 = 1 + k * ((K - a) * (2 * t)) by rw [Nat.mul_comm 2 k, Nat.mul_assoc k, Nat.mul_left_comm]; omega, Nat.add_mul_mod_self_left, Nat.mod_eq_of_lt (by omega)]
    · rw [show (K - a) * (2 * k * t) + 1 = 1 + t * ((K - a) * (2 * k)) by rw [Nat.mul_comm (2 * k) t, Nat.mul_left_comm]; omega, Nat.add_mul_mod_self_left, Nat.mod_eq_of_lt (by omega)]
  have hstep : ∀ m, m ≤ a → dnF s K a + m * s = dnF s K (a - m) := fun m hm => by
    have := dnF_sub (s := s) (show a - m ≤ a by omega) (show a ≤ K by omega)
    rw [this, show a - (a - m) = m by omega]
  by_cases hi0 : i = 0
  · subst hi0
    refine ⟨_, _, h2, if_pos rfl, by omega, Nat.le_refl _, hup a h1, base.1, base.2.1, base.2.2, h3, fun m hm hlt => ?_⟩
    have hma : m ≤ a := by
      rcases Nat.lt_or_ge a m with h5 | h5
      · exfalso
        have h6 : (a + 1) * s ≤ m * s := Nat.mul_le_mul_right s h5
        have h7 := hstep a (Nat.le_refl _)
        rw [Nat.sub_self] at h7
        have h8 : dnF s K 0 = K * s + 1 := rfl
        have h9 : 2147483646 < (K + 1) * s := by
          have := Nat.lt_mul_div_succ (2147483648 - 2) hs0
          rw [hK, Nat.mul_comm] at this
          exact this
        rw [Nat.add_mul, Nat.one_mul] at h6 h9
        omega
      · exact h5
    rw [hstep m hma]
    exact chl_first h4 (by omega)
  · obtain ⟨i', rfl⟩ : ∃ i', i = i' + 1 := ⟨i - 1, by omega⟩
    obtain ⟨a', g1, g2, g3, g4⟩ := chl_get (F := dnF s K) j i' (by omega)
    rw [hl] at g2
    have hlt : a' < a := by
      rcases Nat.lt_or_ge a' a with h5 | h5
      · exact h5
      · have := chl_le (F := dnF s K) h5
        omega
    have hH := dnF_sub (s := s) (K := K) (show a' ≤ a by omega) (show a ≤ K by omega)
    have hle' := dn_le (L := 2147483648) (j := a') hK.symm (by omega)
    refine ⟨_, _, h2, (if_neg (by omega)).trans g2, ?_, by omega, hup a h1, base.1, base.2.1, base.2.2, h3, fun m hm hltm => ?_⟩
    · have : 1 * s ≤ (a - a') * s := Nat.mul_le_mul_right s (by omega)
      omega
    · have hma : m < a - a' := by
        rcases Nat.lt_or_ge m (a - a') with h5 | h5
        · exact h5
        · have : (a - a') * s ≤ m * s := Nat.mul_le_mul_right s h5
          omega
      rw [hstep m (by omega)]
      exact chl_gap h4 g4 g3 (by omega) (by omega)
theorem desc_take {F : Nat → Nat} {K m j : Nat} {l : List Nat} (h1 : j ≤ K) (h2 : ∀ i, i < j → 1073741824 < F i) (h3 : chl F j = l) (h4 : l.length = m + 1) : ChainR F K m (l.take m) 0 := by
  obtain ⟨a, g1, _, _, g4⟩ := chl_get (F := F) j m (by rw [h3]; omega)
  obtain ⟨d, hd⟩ := Nat.exists_eq_add_of_le (show a ≤ j by omega)
  obtain ⟨t, ht⟩ := chl_pre F d a
  rw [← hd, h3] at ht
  have hx : l.take m = chl F a := by rw [ht, ← g4, List.take_left]
  exact .inl ⟨a, by omega, fun i hi => h2 i (by omega), hx.symm, by rw [hx]; exact g4, rfl⟩

set_option maxRecDepth 100000 in
set_option maxHeartbeats 4000000 in
theorem primesDescend_any (n c : Int) (t : Nat) (w : World) (ht : t ≤ 4294967295) (hc1 : -9223372036854775808 ≤ c) (hc2 : c ≤ 9223372036854775807) : Calls Try.prog 6 #[.int .i64 n, .int .u32 t, .int .i64 c] w (RetV w (.bool true)) := by
  have H1 := Lib.hid (fun V => pchain_any n c t V ht hc1 hc2)
  go_enter Try.func6, Try.ntmps6
  go_wp2_with fail
  refine (H1.out w).mono ?_
  rintro e w1 ⟨A, cp, l, E, rfl, hlc, hwl, hr1, hb1⟩
  have hz1 := hb1.size
  have hE : (E ≠ 0 ∧ l = []) ∨ (E = 0 ∧ ¬ ChBad n t c ∧ ∃ j, j ≤ chK n t ∧ (∀ i, i < j → 1073741824 < dnF (chS n t) (chK n t) i) ∧ chl (dnF (chS n t) (chK n t)) j = l ∧ l.length = c.toNat) := by
    rcases hr1 with ⟨_, rfl, rfl⟩ | ⟨h1, h2⟩
    · exact .inl ⟨by omega, rfl⟩
    · rcases h2 with ⟨j, g1, g2, g3, g4, rfl⟩ | ⟨j, _, _, _, _, rfl, rfl⟩
      · exact .inr ⟨rfl, h1, j, g1, g2, g3, g4⟩
      · exact .inl ⟨by omega, rfl⟩
  clear hr1
  rcases hE with ⟨hE, rfl⟩ | ⟨rfl, hgood, j, hj, hup, hl, hlen⟩
  · have q1 : ((E : Int) != 0) = true := by simp; omega
    clear hE hwl H1
    go_wp2_with fail
    (with_reducible refine (shown_any w1).mono ?_)
    rintro e w2 ⟨rfl, hb2⟩
    go_wp2_with fail
    go_ret
    exact ⟨rfl, hb1.trans (hb2.mono hz1)⟩
  obtain ⟨⟨k, rfl, hk4, hk32, hdim⟩, ht3, htodd, ht31, cnt, rfl, hcn1, hcn2⟩ := chGood hgood
  rw [Int.toNat_natCast] at hlen
  obtain ⟨s, hs⟩ : ∃ s, chS (k : Int) t = s := ⟨_, rfl⟩
  obtain ⟨K, hK⟩ : ∃ K, chK (k : Int) t = K := ⟨_, rfl⟩
  have hs' : 2 * k * t = s := hs
  have hK' : (2147483648 - 2) / s = K := by rw [← hK, ← hs]; rfl
  have hsi : 2 * (k : Int) * (t : Int) = (s : Int) := by rw [← hs']; simp
  have hslo : 24 ≤ s := by rw [← hs']; exact Nat.mul_le_mul (show 8 ≤ 2 * k by omega) ht3
  have hshi : s ≤ 137438953408 := by rw [← hs']; exact Nat.mul_le_mul (show 2 * k ≤ 64 by omega) ht31
  rw [hs, hK] at hup hl
  rw [hK] at hj
  have HDF := Lib.hid (fun i (hi : i < l.length) => desc_fact hs' hk4 ht3 hK' hj hup hl hi)
  have hchr : ∀ m, cnt = m + 1 → 1 ≤ m → ChR (k : Int) t (m : Int) (l.take m) 0 := fun m hm hm1 => by
    refine .inr ⟨?_, ?_⟩
    · unfold ChBad; rw [hdim]; simp; omega
    · rw [hs, hK, Int.toNat_natCast]
      exact desc_take hj hup hl (by omega)
  have HCHR := Lib.hid hchr
  have HWL := Lib.hid hwl
  have HLEN := Lib.hid hlen
  have hk0 : ¬ k = 0 := by omega
  have ht0 : ¬ t = 0 := by omega
  have hs0 : ¬ s = 0 := by omega
  clear hchr hwl hlen hs hK hs' hK' hj hup hl hgood hdim htodd
  have q2 : ((l.length : Int) != (cnt : Int)) = false := by simp; have := HLEN.out; omega
  have q3 : decide ((k : Int) < 4) = false := decide_eq_false (by omega)
  have q4 : decide ((k : Int) > 32) = false := decide_eq_false (by omega)
  have q5 : decide ((t : Int) < 3) = false := decide_eq_false (by omega)
  have q6 : decide ((cnt : Int) < 1) = false := decide_eq_false (by omega)
  have q7 : decide ((cnt : Int) > 25) = false := decide_eq_false (by omega)
  have q6' : ¬ cnt < 1 := by omega
  have q7' : ¬ 25 < cnt := by omega
  have hlb : l.length ≤ 25 := by rw [HLEN.out]; exact hcn2
  go_wp2_with fail
  clear q2 q3 q4 q5 q6 q7 q6' q7' hsi
  go_loop [10] (fun I => ∃ i : Nat, I = .int .i64 (i : Int) ∧ i ≤ l.length) (fun I => l.length - (intOf I).toNat)
  case atStart => exact ⟨0, rfl, Nat.zero_le _⟩
  case round =>
    obtain ⟨i, rfl, hil⟩ := hrel
    by_cases hin : i < l.length
    · obtain ⟨b, off, rfl, _, hbhi, hcell⟩ := HWL.out.2 (by omega)
      obtain ⟨p, H, hp, hH, hpH, hH31, hp30, hpk, hpt, hps, hpr, hno⟩ := HDF.out i hin
      have k1 := hcell i hin
      simp only [hp] at k1
      have HPR := Lib.hid (rprime_any p w1 (by omega))
      rw [prB_yes hpr] at HPR
      have HNO := Lib.hid hno
      have e1 : (p : Int) % (k : Int) = 1 := by rw [← Int.natCast_emod, hpk]; rfl
      have e1t : (p : Int).tmod (k : Int) = 1 := by rw [Int.tmod_eq_emod_of_nonneg (by omega), e1]
      have e2 : (p : Int) % (t : Int) = 1 := by rw [← Int.natCast_emod, hpt]; rfl
      have e2t : (p : Int).tmod (t : Int) = 1 := by rw [Int.tmod_eq_emod_of_nonneg (by omega), e2]
      have e3 : ((p : Int) - 1) % (s : Int) = 0 := by
        have : ((p : Int) - 1) % (s : Int) = (((p - 1) % s : Nat) : Int) := by rw [Int.natCast_emod, Int.ofNat_sub (by omega)]; rfl
        rw [this, hps]; rfl
      have e3t : ((p : Int) - 1).tmod (s : Int) = 0 := by rw [Int.tmod_eq_emod_of_nonneg (by omega), e3]
      have q8 : decide ((p : Int) ≥ (H : Int)) = false := decide_eq_false (by omega)
      have q8' : ¬ H ≤ p := by omega
      have q9 : decide ((p : Int) ≤ 1073741824) = false := decide_eq_false (by omega)
      have hcc : (i = 0 ∧ H = 2147483648) ∨ (∃ i', i = i' + 1 ∧ w1.cell? ⟨b, off + i', none⟩ = some (.int .u32 (H : Int))) := by
        by_cases hi0 : i = 0
        · rw [if_pos hi0] at hH
          exact .inl ⟨hi0, hH.symm⟩
        · rw [if_neg hi0] at hH
          refine .inr ⟨i - 1, by omega, ?_⟩
          have := hcell (i - 1) (by omega)
          simp only [hH] at this
          exact this
      clear hp hH hpk hpt hps hpr hno hcell
      rcases hcc with ⟨rfl, hHe⟩ | ⟨i', rfl, k2⟩
      · simp only [Nat.add_zero] at k1
        have q8a : decide ((p : Int) ≥ 2147483648) = false := decide_eq_false (by omega)
        have q8b : ¬ (2147483648 : Int) ≤ (p : Int) := by omega
        have hpH2 : p < 2147483648 := by omega
        have HHE := Lib.hid hHe
        rw [hHe] at HNO
        clear hHe q8 q8' hH31 hpH
        go_wp2_with fail
        (with_reducible refine HPR.out.mono ?_)
        rintro e w2 ⟨rfl, hw2⟩
        subst hw2
        go_wp2_with fail
        clear e1 e1t e2 e2t e3 e3t
        go_loop [13] (fun Q => ∃ m q : Nat, Q = .int .u64 (q : Int) ∧ 1 ≤ m ∧ p + m * s = q ∧ q ≤ 139586437120) (fun Q => 2147483648 - (intOf Q).toNat)
        case atStart => exact ⟨1, p + s, by go_num, Nat.le_refl _, by rw [Nat.one_mul], by omega⟩
        case round =>
          obtain ⟨m, q, rfl, hm1, hq, hqb⟩ := hrel
          have HQ := Lib.hid hq
          have hnx : p + (m + 1) * s = q + s := by rw [Nat.succ_mul]; omega
          have HNX := Lib.hid hnx
          clear hq hnx
          by_cases hqH : q < 2147483648
          · have q10 : decide ((q : Int) < 2147483648) = true := decide_eq_true (by omega)
            have hnp : ¬ Mr.Pr q := by rw [← HQ.out]; exact HNO.out m hm1 (by rw [HQ.out]; omega)
            have HPQ := Lib.hid (rprime_any q w1 (by omega))
            rw [prB_no hnp] at HPQ
            clear hnp
            go_wp2_with fail
            (with_reducible refine HPQ.out.mono ?_)
            rintro e w3 ⟨rfl, hw3⟩
            subst hw3
            go_wp2
            go_round
            case rel => exact ⟨m + 1, q + s, by go_num, by omega, HNX.out, by omega⟩
            case measure => simp only [intOf]; omega
          · have q10 : decide ((q : Int) < 2147483648) = false := decide_eq_false (by omega)
            go_wp2
            go_round
            case rel => exact ⟨0 + 1, by go_num, by omega⟩
            case measure => simp only [intOf]; omega
      · skip
        go_wp2_with fail
        (with_reducible refine HPR.out.mono ?_)
        rintro e w2 ⟨rfl, hw2⟩
        subst hw2
        go_wp2_with fail
        clear e1 e1t e2 e2t e3 e3t
        go_loop [13] (fun Q => ∃ m q : Nat, Q = .int .u64 (q : Int) ∧ 1 ≤ m ∧ p + m * s = q ∧ q ≤ 139586437120) (fun Q => 2147483648 - (intOf Q).toNat)
        case atStart => exact ⟨1, p + s, by go_num, Nat.le_refl _, by rw [Nat.one_mul], by omega⟩
        case round =>
          obtain ⟨m, q, rfl, hm1, hq, hqb⟩ := hrel
          have HQ := Lib.hid hq
          have hnx : p + (m + 1) * s = q + s := by rw [Nat.succ_mul]; omega
          have HNX := Lib.hid hnx
          clear hq hnx
          by_cases hqH : q < H
          · have q10 : decide ((q : Int) < (H : Int)) = true := decide_eq_true (by omega)
            have hnp : ¬ Mr.Pr q := by rw [← HQ.out]; exact HNO.out m hm1 (by rw [HQ.out]; omega)
            have HPQ := Lib.hid (rprime_any q w1 (by omega))
            rw [prB_no hnp] at HPQ
            clear hnp
            go_wp2_with fail
            (with_reducible refine HPQ.out.mono ?_)
            rintro e w3 ⟨rfl, hw3⟩
            subst hw3
            go_wp2
            go_round
            case rel => exact ⟨m + 1, q + s, by go_num, by omega, HNX.out, by omega⟩
            case measure => simp only [intOf]; omega
          · have q10 : decide ((q : Int) < (H : Int)) = false := decide_eq_false (by omega)
            go_wp2
            go_round
            case rel => exact ⟨(i' + 1) + 1, by go_num, by omega⟩
            case measure => simp only [intOf]; omega
    · clear HDF
      by_cases hc1' : cnt = 1
      · have q2 : decide ((cnt : Int) > 1) = false := decide_eq_false (by omega)
        have q2' : ¬ 1 < cnt := by omega
        have HC := Lib.hid hc1'
        clear hc1'
        go_wp2_with fail
        (with_reducible refine (shown_any w1).mono ?_)
        rintro e w2 ⟨rfl, hb2⟩
        go_wp2_with fail
        go_ret
        exact ⟨rfl, hb1.trans (hb2.mono hz1)⟩
      · obtain ⟨m, hm⟩ : ∃ m, cnt = m + 1 := ⟨cnt - 1, by omega⟩
        have hm1 : 1 ≤ m := by omega
        have hmi : (cnt : Int) - 1 = (m : Int) := by omega
        have q2 : decide ((cnt : Int) > 1) = true := decide_eq_true (by omega)
        have q2' : 1 < cnt := by omega
        have hchr := HCHR.out m hm hm1
        have HCH := Lib.hid hchr
        have hml : m < l.length := by rw [HLEN.out]; omega
        have HCALL := Lib.hid (pchain_any (k : Int) (m : Int) t w1 (by omega) (by omega) (by omega))
        have HM := Lib.hid hm
        have hmc : (m : Int) ≤ (cp : Int) := by omega
        have hmc2 : m ≤ cp := by omega
        clear hchr hm hc1' HCHR
        go_wp2_with fail
        refine HCALL.out.mono ?_
        rintro e w2 ⟨A', cp', l', E', rfl, hlc', hwl', hr', hb2⟩
        obtain ⟨hl', rfl⟩ := HCH.out.uniq hr'
        have hll' : l'.length = m := by rw [hl', List.length_take]; omega
        have hz2 := hb2.size
        have hsq : Sq .u32 w2 w.heap.size w1.heap.size A m (fun j => l'.getD j 0) := by
          refine ⟨fun j hj => ?_, fun hpos => ?_⟩
          · simp [List.getElem?_eq_none (show l'.length ≤ j by omega)]
          · have hlw2 : Sq .u32 w2 w.heap.size w1.heap.size A l.length (fun j => l.getD j 0) := HWL.out.below hb2 (Nat.le_refl _)
            obtain ⟨b, off, e1, e2, e3, e4⟩ := hlw2.2 (by omega)
            refine ⟨b, off, e1, e2, e3, fun j hj => ?_⟩
            rw [e4 j (by omega), hl']
            simp only
            rw [List.getD_eq_getElem?_getD, List.getD_eq_getElem?_getD, List.getElem?_take_of_lt hj]
        have HS := Lib.hid (samew_any l'.length m cp' cp A' A (fun j => l'.getD j 0) (fun j => l'.getD j 0) w2 _ _ _ _ hwl' hsq (by omega) (by omega) (Nat.le_refl _) hz2)
        rw [sameB_true.2 ⟨hll', fun _ _ => rfl⟩] at HS
        clear hr' hwl' hsq hl'
        have HLL := Lib.hid hll'
        have hlb2 : l'.length ≤ 25 := by omega
        clear hll'
        go_wp2_with fail
        (with_reducible refine HS.out.mono ?_)
        rintro e w3 ⟨rfl, hb3⟩
        have hb13 := hb2.trans (hb3.mono hz2)
        have hz3 := hb13.size
        go_wp2_with fail
        (with_reducible refine (shown_any w3).mono ?_)
        rintro e w4 ⟨rfl, hb4⟩
        go_wp2_with fail
        go_ret
        exact ⟨rfl, hb1.trans ((hb13.trans (hb4.mono hz3)).mono hz1)⟩
end Go.Proofs.Ythepdpfiahcfmaa
