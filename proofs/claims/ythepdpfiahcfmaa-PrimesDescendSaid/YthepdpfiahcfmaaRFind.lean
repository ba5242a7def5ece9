/- The contracts of the reference's Below and Next. -/
import Derived.Test.YthepdpfiahcfmaaNext
namespace Go.Proofs.Ythepdpfiahcfmaa
open Go.RowKit
set_option linter.unusedVariables false

set_option maxRecDepth 100000 in
set_option maxHeartbeats 1000000 in
theorem rbelow_any (L s : Nat) (w : World) (hL : L ≤ 4294967295) (hs : s ≤ 4294967295) :
    Calls Try.prog 9 #[.int .u32 L, .int .u32 s] w (RetF w (BelowR L s)) := by
  by_cases hbad : s = 0 ∨ 2147483648 < L
  · have hc : s = 0 ∨ (¬ s = 0 ∧ 2147483648 < L) := by omega
    have HBAD := Lib.hid hbad
    clear hbad
    rcases hc with h1 | ⟨h1, h2⟩
    · have q1 : ((s : Int) == 0) = true := by simp; omega
      have HS0 := Lib.hid h1
      clear h1
      go_enter Try.func9, Try.ntmps9
      go_wp2_with fail
      go_ret2
      exact ⟨0, 2, rfl, .inl ⟨HBAD.out, rfl, rfl⟩, Below.refl _ _⟩
    · have q1 : ((s : Int) == 0) = false := by simp; omega
      have q2 : decide ((L : Int) > 2147483648) = true := decide_eq_true (by omega)
      go_enter Try.func9, Try.ntmps9
      go_wp2_with fail
      go_ret2
      exact ⟨0, 2, rfl, .inl ⟨HBAD.out, rfl, rfl⟩, Below.refl _ _⟩
  have q1 : ((s : Int) == 0) = false := by simp; omega
  have q2 : decide ((L : Int) > 2147483648) = false := decide_eq_false (by omega)
  have HBAD := Lib.hid hbad
  have hs0 : 0 < s := by omega
  have hs00 : ¬ s = 0 := by omega
  obtain ⟨K, hK⟩ : ∃ K, (L - 2) / s = K := ⟨_, rfl⟩
  have HK := Lib.hid hK
  have hL2 : L ≤ 2147483648 := by omega
  by_cases h3 : L < 3
  · have q3 : decide ((L : Int) < 3) = true := decide_eq_true (by omega)
    have hK0 : K = 0 := by rw [← hK, show L - 2 = 0 by omega, Nat.zero_div]
    have HK0 := Lib.hid hK0
    clear hK0 hK hbad
    go_enter Try.func9, Try.ntmps9
    go_wp2_with fail
    go_ret2
    exact ⟨0, 4, rfl, .inr ⟨HBAD.out, by rw [HK.out, HK0.out]; exact .inr ⟨fun i hi => absurd hi (Nat.not_lt_zero i), rfl, rfl⟩⟩, Below.refl _ _⟩
  have q3 : decide ((L : Int) < 3) = false := decide_eq_false (by omega)
  have hquo : ((L : Int) - 2) / (s : Int) = (K : Int) := by rw [← hK, Int.natCast_ediv, Int.ofNat_sub (by omega)]; rfl
  have hquot : ((L : Int) - 2).tdiv (s : Int) = (K : Int) := by rw [Int.tdiv_eq_ediv_of_nonneg (by omega), hquo]
  have hKL : K ≤ L - 2 := by rw [← hK]; exact Nat.div_le_self _ _
  clear hK hbad
  go_enter Try.func9, Try.ntmps9
  go_wp2_with fail
  go_loop [6] (fun p => ∃ k j : Nat, p = .int .u32 (k : Int) ∧ k + j ≤ K ∧ K ≤ k + j ∧ ∀ i, i < j → ¬ Mr.Pr (dnF s K i)) (fun p => (intOf p).toNat)
  case atStart => exact ⟨K, 0, rfl, by omega, by omega, fun i hi => absurd hi (Nat.not_lt_zero i)⟩
  case round =>
    clear hquo hquot
    obtain ⟨k, j, rfl, hk1, hk2, hun⟩ := hrel
    have HUN := Lib.hid hun
    clear hun
    by_cases hk : 0 < k
    · have q4 : decide ((k : Int) > 0) = true := decide_eq_true (by omega)
      have hle := dn_le (j := j) HK.out.symm (by omega)
      have hval : dnF s K j = k * s + 1 := by unfold dnF; rw [show K - j = k by omega]
      obtain ⟨d, hd⟩ : ∃ d, k * s = d := ⟨_, rfl⟩
      have hdi : (k : Int) * (s : Int) = (d : Int) := by rw [← hd]; simp
      rw [hval, hd] at hle
      rw [hd] at hval
      have HVAL := Lib.hid hval
      clear hval hd
      have HP := Lib.hid (rprime_any (d + 1) w (by omega))
      rw [Int.natCast_add, Int.natCast_one] at HP
      obtain ⟨b, hb⟩ : ∃ b, prB (d + 1) = b := ⟨_, rfl⟩
      rw [hb] at HP
      cases b
      · have hnp : ¬ Mr.Pr (dnF s K j) := fun h => by rw [HVAL.out] at h; rw [prB_yes h] at hb; cases hb
        have HNP := Lib.hid hnp
        clear hb hnp
        go_wp2_with fail
        (with_reducible refine HP.out.mono ?_)
        rintro e w2 ⟨rfl, hw2⟩
        subst hw2
        go_wp2
        go_round
        case rel => exact ⟨k - 1, j + 1, by go_num, by omega, by omega, fun i hi => by
          rcases Nat.lt_or_ge i j with h | h
          · exact HUN.out i h
          · rw [show i = j by omega]; exact HNP.out⟩
        case measure => simp only [intOf]; omega
      · have hpr := prB_true.1 hb
        rw [← HVAL.out] at hpr
        have HNP := Lib.hid hpr
        clear hb hpr
        go_wp2_with fail
        (with_reducible refine HP.out.mono ?_)
        rintro e w2 ⟨rfl, hw2⟩
        subst hw2
        go_wp2
        go_ret2
        exact ⟨d + 1, 0, by rw [Int.natCast_add]; rfl, .inr ⟨HBAD.out, by rw [HK.out]; exact .inl ⟨j, by omega, HNP.out, HUN.out, HVAL.out.symm, rfl⟩⟩, Below.refl _ _⟩
    · obtain rfl : k = 0 := by omega
      go_wp2
      go_ret2
      exact ⟨0, 4, rfl, .inr ⟨HBAD.out, by rw [HK.out]; exact .inr ⟨fun i hi => HUN.out i (by omega), rfl, rfl⟩⟩, Below.refl _ _⟩

set_option maxRecDepth 100000 in
set_option maxHeartbeats 1000000 in
theorem rnext_any (a s : Nat) (w : World) (ha : a ≤ 4294967295) (hs : s ≤ 4294967295) :
    Calls Try.prog 11 #[.int .u32 a, .int .u32 s] w (RetF w (NextR a s)) := by
  by_cases hs0 : s = 0
  · have q1 : ((s : Int) == 0) = true := by simp; omega
    have HS0 := Lib.hid hs0
    clear hs0
    go_enter Try.func11, Try.ntmps11
    go_wp2_with fail
    go_ret2
    exact ⟨0, 2, rfl, .inl ⟨HS0.out, rfl, rfl⟩, Below.refl _ _⟩
  have q1 : ((s : Int) == 0) = false := by simp; omega
  obtain ⟨K, hK⟩ : ∃ K, nxK a s = K := ⟨_, rfl⟩
  obtain ⟨hk1, hk2⟩ := nxK_le (a := a) (s := s) (by omega) ha hs
  rw [hK] at hk1 hk2
  obtain ⟨n0, hn0⟩ : ∃ n0, K * s + 1 = n0 := ⟨_, rfl⟩
  have HS0 := Lib.hid hs0
  have HFIN : Hid (∀ v E, FindR (upF s n0) (fun j => upF s n0 j ≤ 2147483647) v E → NextR a s v E) := Lib.hid (fun v E h => .inr ⟨hs0, by rw [hK, hn0]; exact h⟩)
  have hup : ∀ j, upF s n0 j = (K + j) * s + 1 := fun j => by unfold upF; rw [← hn0, Nat.add_mul]; omega
  have HUP := Lib.hid hup
  have hstep : ∀ (kv : Value), kv = .int .u64 (K : Int) → True := fun _ _ => trivial
  have hc : (¬ 2 < a ∧ K = 1) ∨ (2 < a ∧ (a - 1 + s - 1) / s = K) := by
    rcases Nat.lt_or_ge 2 a with h | h
    · right
      refine ⟨h, ?_⟩
      rw [← hK]
      unfold nxK
      have : 1 ≤ (a - 1 + s - 1) / s := (Nat.le_div_iff_mul_le (by omega)).2 (by omega)
      rw [Nat.max_eq_right this]
    · left
      refine ⟨by omega, ?_⟩
      rw [← hK]
      unfold nxK
      have : (a - 1 + s - 1) / s < 2 := (Nat.div_lt_iff_lt_mul (by omega)).2 (by omega)
      omega
  clear hK hn0 hup hstep
  rcases hc with ⟨h1, h2⟩ | ⟨h1, h2⟩
  · have q2 : decide ((a : Int) > 2) = false := decide_eq_false (by omega)
    have q2' : ¬ 2 < (a : Int) := by omega
    have hK1 : (1 : Int) = (K : Int) := by omega
    have HK1 := Lib.hid hK1
    have hKb : K ≤ 1 := by omega
    clear hK1 h2
    go_enter Try.func11, Try.ntmps11
    go_wp2_with fail
    go_loop [6] (fun p => ∃ k j d : Nat, p = .int .u64 (k : Int) ∧ k ≤ K + j ∧ K + j ≤ k ∧ k * s = d ∧ d ≤ 17179869184 ∧ k ≤ 17179869184 ∧ ∀ i, i < j → ¬ Mr.Pr (upF s n0 i)) (fun p => 2147483648 - (intOf p).toNat)
    case atStart => exact ⟨K, 0, K * s, by first | rfl | rw [HK1.out], by omega, by omega, rfl, by omega, by omega, fun i hi => absurd hi (Nat.not_lt_zero i)⟩
    case round =>
      obtain ⟨k, j, d, rfl, hk1', hk2', hd, hd2, hkb, hun⟩ := hrel
      have HUN := Lib.hid hun
      have hdi : (k : Int) * (s : Int) = (d : Int) := by rw [← hd]; simp
      have hval : upF s n0 j = d + 1 := by rw [HUP.out, show K + j = k by omega, hd]
      have HVAL := Lib.hid hval
      have hkd : k ≤ d := by rw [← hd]; exact Nat.le_mul_of_pos_right k (by omega)
      have hnx : (k + 1) * s = d + s := by rw [Nat.add_mul, hd]; omega
      have HNX := Lib.hid hnx
      clear hun hval hd hnx
      by_cases hle : d + 1 ≤ 2147483647
      · have q4 : decide ((d : Int) + 1 ≤ 2147483647) = true := decide_eq_true (by omega)
        have HP := Lib.hid (rprime_any (d + 1) w (by omega))
        rw [Int.natCast_add, Int.natCast_one] at HP
        obtain ⟨b, hb⟩ : ∃ b, prB (d + 1) = b := ⟨_, rfl⟩
        rw [hb] at HP
        cases b
        · have hnp : ¬ Mr.Pr (upF s n0 j) := fun h => by rw [HVAL.out] at h; rw [prB_yes h] at hb; cases hb
          have HNP := Lib.hid hnp
          clear hb hnp
          go_wp2_with fail
          (with_reducible refine HP.out.mono ?_)
          rintro e w2 ⟨rfl, hw2⟩
          subst hw2
          go_wp2
          go_round
          case rel => exact ⟨k + 1, j + 1, d + s, by go_num, by omega, by omega, HNX.out, by omega, by omega, fun i hi => by
            rcases Nat.lt_or_ge i j with h | h
            · exact HUN.out i h
            · rw [show i = j by omega]; exact HNP.out⟩
          case measure => simp only [intOf]; omega
        · have hpr := prB_true.1 hb
          rw [← HVAL.out] at hpr
          have HNP := Lib.hid hpr
          clear hb hpr
          go_wp2_with fail
          (with_reducible refine HP.out.mono ?_)
          rintro e w2 ⟨rfl, hw2⟩
          subst hw2
          go_wp2
          go_ret2
          exact ⟨d + 1, 0, by rw [Int.natCast_add]; rfl, HFIN.out _ _ (.inl ⟨j, by show upF s n0 j ≤ _; rw [HVAL.out]; exact hle, HNP.out, HUN.out, HVAL.out.symm, rfl⟩), Below.refl _ _⟩
      · have q4 : decide ((d : Int) + 1 ≤ 2147483647) = false := decide_eq_false (by omega)
        go_wp2
        go_ret2
        exact ⟨0, 4, rfl, HFIN.out _ _ (.inr ⟨fun i hi => HUN.out i (Nat.lt_of_not_le fun h => by
          have h5 : upF s n0 j ≤ upF s n0 i := Nat.add_le_add_left (Nat.mul_le_mul_right s h) _
          rw [HVAL.out] at h5
          have h6 : upF s n0 i ≤ 2147483647 := hi
          omega), rfl, rfl⟩), Below.refl _ _⟩
  · have q2 : decide ((a : Int) > 2) = true := decide_eq_true (by omega)
    have hquo : ((a : Int) - 1 + (s : Int) - 1) / (s : Int) = (K : Int) := by rw [← h2, Int.natCast_ediv]; congr 1; omega
    have hquot : ((a : Int) - 1 + (s : Int) - 1).tdiv (s : Int) = (K : Int) := by rw [Int.tdiv_eq_ediv_of_nonneg (by omega), hquo]
    have hKb : K ≤ 8589934592 := by rw [← h2]; have := Nat.div_le_self (a - 1 + s - 1) s; omega
    have HK1 := Lib.hid (show (K : Int) = (K : Int) from rfl)
    clear h2
    go_enter Try.func11, Try.ntmps11
    go_wp2_with fail
    clear hquo hquot
    go_loop [6] (fun p => ∃ k j d : Nat, p = .int .u64 (k : Int) ∧ k ≤ K + j ∧ K + j ≤ k ∧ k * s = d ∧ d ≤ 17179869184 ∧ k ≤ 17179869184 ∧ ∀ i, i < j → ¬ Mr.Pr (upF s n0 i)) (fun p => 2147483648 - (intOf p).toNat)
    case atStart => exact ⟨K, 0, K * s, by first | rfl | rw [HK1.out], by omega, by omega, rfl, by omega, by omega, fun i hi => absurd hi (Nat.not_lt_zero i)⟩
    case round =>
      obtain ⟨k, j, d, rfl, hk1', hk2', hd, hd2, hkb, hun⟩ := hrel
      have HUN := Lib.hid hun
      have hdi : (k : Int) * (s : Int) = (d : Int) := by rw [← hd]; simp
      have hval : upF s n0 j = d + 1 := by rw [HUP.out, show K + j = k by omega, hd]
      have HVAL := Lib.hid hval
      have hkd : k ≤ d := by rw [← hd]; exact Nat.le_mul_of_pos_right k (by omega)
      have hnx : (k + 1) * s = d + s := by rw [Nat.add_mul, hd]; omega
      have HNX := Lib.hid hnx
      clear hun hval hd hnx
      by_cases hle : d + 1 ≤ 2147483647
      · have q4 : decide ((d : Int) + 1 ≤ 2147483647) = true := decide_eq_true (by omega)
        have HP := Lib.hid (rprime_any (d + 1) w (by omega))
        rw [Int.natCast_add, Int.natCast_one] at HP
        obtain ⟨b, hb⟩ : ∃ b, prB (d + 1) = b := ⟨_, rfl⟩
        rw [hb] at HP
        cases b
        · have hnp : ¬ Mr.Pr (upF s n0 j) := fun h => by rw [HVAL.out] at h; rw [prB_yes h] at hb; cases hb
          have HNP := Lib.hid hnp
          clear hb hnp
          go_wp2_with fail
          (with_reducible refine HP.out.mono ?_)
          rintro e w2 ⟨rfl, hw2⟩
          subst hw2
          go_wp2
          go_round
          case rel => exact ⟨k + 1, j + 1, d + s, by go_num, by omega, by omega, HNX.out, by omega, by omega, fun i hi => by
            rcases Nat.lt_or_ge i j with h | h
            · exact HUN.out i h
            · rw [show i = j by omega]; exact HNP.out⟩
          case measure => simp only [intOf]; omega
        · have hpr := prB_true.1 hb
          rw [← HVAL.out] at hpr
          have HNP := Lib.hid hpr
          clear hb hpr
          go_wp2_with fail
          (with_reducible refine HP.out.mono ?_)
          rintro e w2 ⟨rfl, hw2⟩
          subst hw2
          go_wp2
          go_ret2
          exact ⟨d + 1, 0, by rw [Int.natCast_add]; rfl, HFIN.out _ _ (.inl ⟨j, by show upF s n0 j ≤ _; rw [HVAL.out]; exact hle, HNP.out, HUN.out, HVAL.out.symm, rfl⟩), Below.refl _ _⟩
      · have q4 : decide ((d : Int) + 1 ≤ 2147483647) = false := decide_eq_false (by omega)
        go_wp2
        go_ret2
        exact ⟨0, 4, rfl, HFIN.out _ _ (.inr ⟨fun i hi => HUN.out i (Nat.lt_of_not_le fun h => by
          have h5 : upF s n0 j ≤ upF s n0 i := Nat.add_le_add_left (Nat.mul_le_mul_right s h) _
          rw [HVAL.out] at h5
          have h6 : upF s n0 i ≤ 2147483647 := hi
          omega), rfl, rfl⟩), Below.refl _ _⟩
end Go.Proofs.Ythepdpfiahcfmaa
