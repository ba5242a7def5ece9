/- The contracts of both Plain of layer 3. -/
import Derived.Test.YthepdpfiahcfmaaDim
import Derived.Test.YthepdpfiahcfmaaFind
namespace Go.Proofs.Ythepdpfiahcfmaa
open Go.RowKit
set_option linter.unusedVariables false

def PlBad (n : Int) (p : Nat) (r : Int) : Prop := dimB n = false ∨ p % 2 = 0 ∨ ¬ Mr.Pr p ∨ (p - 1) % (2 * n.toNat) ≠ 0 ∨ r < 1
def PlR (n : Int) (p : Nat) (r : Int) (v E : Nat) : Prop := (PlBad n p r ∧ v = 0 ∧ E = 2) ∨ (¬ PlBad n p r ∧ 2147483647 < p ^ r.toNat ∧ v = 0 ∧ E = 7) ∨ (¬ PlBad n p r ∧ ¬ 2147483647 < p ^ r.toNat ∧ v = p ^ r.toNat ∧ E = 0)
theorem PlR.uniq {n : Int} {p : Nat} {r : Int} {v E v' E' : Nat} (h : PlR n p r v E) (h' : PlR n p r v' E') : v' = v ∧ E' = E := by
  rcases h with ⟨h1, rfl, rfl⟩ | ⟨h1, h2, rfl, rfl⟩ | ⟨h1, h2, rfl, rfl⟩ <;> rcases h' with ⟨g1, rfl, rfl⟩ | ⟨g1, g2, rfl, rfl⟩ | ⟨g1, g2, rfl, rfl⟩ <;> first | exact ⟨rfl, rfl⟩ | exact absurd h1 g1 | exact absurd g1 h1 | exact absurd h2 g2 | exact absurd g2 h2
theorem plBad_cases {n : Int} {p : Nat} {r : Int} (h : PlBad n p r) : dimB n = false ∨ (dimB n = true ∧ p % 2 = 0) ∨ (dimB n = true ∧ ¬ p % 2 = 0 ∧ ¬ Mr.Pr p) ∨ (dimB n = true ∧ ¬ p % 2 = 0 ∧ Mr.Pr p ∧ (p - 1) % (2 * n.toNat) ≠ 0) ∨ (dimB n = true ∧ ¬ p % 2 = 0 ∧ Mr.Pr p ∧ (p - 1) % (2 * n.toNat) = 0 ∧ r < 1) := by
  cases hd : dimB n
  · exact .inl rfl
  · by_cases h2 : p % 2 = 0
    · exact .inr (.inl ⟨rfl, h2⟩)
    · by_cases h3 : Mr.Pr p
      · by_cases h4 : (p - 1) % (2 * n.toNat) = 0
        · by_cases h5 : r < 1
          · exact .inr (.inr (.inr (.inr ⟨rfl, h2, h3, h4, h5⟩)))
          · unfold PlBad at h
            rw [hd] at h
            rcases h with h | h | h | h | h
            · cases h
            · exact absurd h h2
            · exact absurd h3 h
            · exact absurd h4 h
            · exact absurd h h5
        · exact .inr (.inr (.inr (.inl ⟨rfl, h2, h3, h4⟩)))
      · exact .inr (.inr (.inl ⟨rfl, h2, h3⟩))
theorem dim_nat {n : Int} (h : dimB n = true) : ∃ k : Nat, n = (k : Int) ∧ 4 ≤ k ∧ k ≤ 32 := by
  have := dimB_iff.1 h
  exact ⟨n.toNat, by omega, by omega, by omega⟩

set_option maxRecDepth 100000 in
set_option maxHeartbeats 2000000 in
theorem pplain_bad (n r : Int) (p : Nat) (w : World) (hp : p ≤ 4294967295) (hr1 : -9223372036854775808 ≤ r) (hr2 : r ≤ 9223372036854775807) (hbad : PlBad n p r) :
    Calls Try.prog 18 #[.int .i64 n, .int .u32 p, .int .i64 r] w (RetF w (PlR n p r)) := by
  have HBAD := Lib.hid hbad
  have hc := plBad_cases hbad
  clear hbad
  rcases hc with h1 | ⟨h1, h2⟩ | ⟨h1, h2, h3⟩ | ⟨h1, h2, h3, h4⟩ | ⟨h1, h2, h3, h4, h5⟩
  · have HD := Lib.hid h1
    clear h1
    go_enter Try.func18, Try.ntmps18
    go_wp2_with fail
    (with_reducible refine (dim_b _ HD.out _).mono ?_)
    rintro e w4 ⟨rfl, hw4⟩
    subst hw4
    go_wp2_with fail
    go_ret2
    exact ⟨0, 2, rfl, .inl ⟨HBAD.out, rfl, rfl⟩, Below.refl _ _⟩
  · have HD := Lib.hid h1
    obtain ⟨k, rfl, hk4, hk32⟩ := dim_nat h1
    clear h1
    have q1 : ((p : Int) % 2 == 0) = true := by simp; omega
    clear h2
    go_enter Try.func18, Try.ntmps18
    go_wp2_with fail
    (with_reducible refine (dim_b _ HD.out _).mono ?_)
    rintro e w4 ⟨rfl, hw4⟩
    subst hw4
    go_wp2_with fail
    go_ret2
    exact ⟨0, 2, rfl, .inl ⟨HBAD.out, rfl, rfl⟩, Below.refl _ _⟩
  · have HD := Lib.hid h1
    obtain ⟨k, rfl, hk4, hk32⟩ := dim_nat h1
    clear h1
    have q1 : ((p : Int) % 2 == 0) = false := by simp; omega
    have hp1 : 1 ≤ p := by omega
    clear h2
    have HP := Lib.hid (prime_any p w hp)
    rw [prB_no h3] at HP
    clear h3
    go_enter Try.func18, Try.ntmps18
    go_wp2_with fail
    (with_reducible refine (dim_b _ HD.out _).mono ?_)
    rintro e w4 ⟨rfl, hw4⟩
    subst hw4
    go_wp2_with fail
    (with_reducible refine HP.out.mono ?_)
    rintro e w5 ⟨rfl, hb5⟩
    go_wp2_with fail
    go_ret2
    exact ⟨0, 2, rfl, .inl ⟨HBAD.out, rfl, rfl⟩, hb5⟩
  · have HD := Lib.hid h1
    obtain ⟨k, rfl, hk4, hk32⟩ := dim_nat h1
    clear h1
    have q1 : ((p : Int) % 2 == 0) = false := by simp; omega
    have hp1 : 1 ≤ p := by omega
    clear h2
    have HP := Lib.hid (prime_any p w hp)
    rw [prB_yes h3] at HP
    clear h3
    have hkt : ((k : Int)).toNat = k := by omega
    rw [hkt] at h4
    clear hkt
    have hk0 : ¬ 2 * k = 0 := by omega
    obtain ⟨m, hm⟩ : ∃ m, (p - 1) % (2 * k) = m := ⟨_, rfl⟩
    rw [hm] at h4
    have hmi : ((p : Int) - 1) % (2 * (k : Int)) = (m : Int) := by rw [← hm, Int.natCast_emod, Int.ofNat_sub (by omega)]; rfl
    have hmit : ((p : Int) - 1).tmod (2 * (k : Int)) = (m : Int) := by rw [Int.tmod_eq_emod_of_nonneg (by omega), hmi]
    clear hm
    have q2 : ((m : Int) != 0) = true := by simp; omega
    clear h4
    go_enter Try.func18, Try.ntmps18
    go_wp2_with fail
    (with_reducible refine (dim_b _ HD.out _).mono ?_)
    rintro e w4 ⟨rfl, hw4⟩
    subst hw4
    go_wp2_with fail
    (with_reducible refine HP.out.mono ?_)
    rintro e w5 ⟨rfl, hb5⟩
    go_wp2_with fail
    go_ret2
    exact ⟨0, 2, rfl, .inl ⟨HBAD.out, rfl, rfl⟩, hb5⟩
  · have HD := Lib.hid h1
    obtain ⟨k, rfl, hk4, hk32⟩ := dim_nat h1
    clear h1
    have q1 : ((p : Int) % 2 == 0) = false := by simp; omega
    have hp1 : 1 ≤ p := by omega
    clear h2
    have HP := Lib.hid (prime_any p w hp)
    rw [prB_yes h3] at HP
    clear h3
    have hkt : ((k : Int)).toNat = k := by omega
    rw [hkt] at h4
    clear hkt
    have hk0 : ¬ 2 * k = 0 := by omega
    obtain ⟨m, hm⟩ : ∃ m, (p - 1) % (2 * k) = m := ⟨_, rfl⟩
    rw [hm] at h4
    have hmi : ((p : Int) - 1) % (2 * (k : Int)) = (m : Int) := by rw [← hm, Int.natCast_emod, Int.ofNat_sub (by omega)]; rfl
    have hmit : ((p : Int) - 1).tmod (2 * (k : Int)) = (m : Int) := by rw [Int.tmod_eq_emod_of_nonneg (by omega), hmi]
    clear hm
    have q2 : ((m : Int) != 0) = false := by simp; omega
    clear h4
    have q3 : decide (r < 1) = true := decide_eq_true (by omega)
    go_enter Try.func18, Try.ntmps18
    go_wp2_with fail
    (with_reducible refine (dim_b _ HD.out _).mono ?_)
    rintro e w4 ⟨rfl, hw4⟩
    subst hw4
    go_wp2_with fail
    (with_reducible refine HP.out.mono ?_)
    rintro e w5 ⟨rfl, hb5⟩
    go_wp2_with fail
    go_ret2
    exact ⟨0, 2, rfl, .inl ⟨HBAD.out, rfl, rfl⟩, hb5⟩

set_option maxRecDepth 100000 in
set_option maxHeartbeats 2000000 in
theorem pplain_good (k R : Nat) (p : Nat) (w : World) (hp : p ≤ 4294967295) (hk4 : 4 ≤ k) (hk32 : k ≤ 32) (hdim : dimB (k : Int) = true) (hR1 : 1 ≤ R) (hR2 : R ≤ 9223372036854775807) (hodd : ¬ p % 2 = 0) (hpr : Mr.Pr p) (h4 : (p - 1) % (2 * k) = 0) :
    Calls Try.prog 18 #[.int .i64 (k : Int), .int .u32 p, .int .i64 (R : Int)] w (RetF w (PlR (k : Int) p (R : Int))) := by
  have hn : ¬ PlBad (k : Int) p (R : Int) := fun hb => by
    have hkt : ((k : Int)).toNat = k := by omega
    unfold PlBad at hb
    rw [hdim, hkt] at hb
    rcases hb with h | h | h | h | h
    · cases h
    · exact hodd h
    · exact h hpr
    · exact h h4
    · omega
  have hf1 : 2147483647 < p ^ R → PlR (k : Int) p (R : Int) 0 7 := fun hle => .inr (.inl ⟨hn, hle, rfl, rfl⟩)
  have hf2 : ¬ 2147483647 < p ^ R → PlR (k : Int) p (R : Int) (p ^ R) 0 := fun hle => .inr (.inr ⟨hn, hle, rfl, rfl⟩)
  have HFIN := Lib.hid hf1
  have HFIN2 := Lib.hid hf2
  clear hf1 hf2
  have HD := Lib.hid hdim
  have HP := Lib.hid (prime_any p w hp)
  rw [prB_yes hpr] at HP
  have hp3 : 3 ≤ p := by have := hpr.1; omega
  have q1 : ((p : Int) % 2 == 0) = false := by simp; omega
  have hmi : ((p : Int) - 1) % (2 * (k : Int)) = 0 := by
    have : ((p : Int) - 1) % (2 * (k : Int)) = (((p - 1) % (2 * k) : Nat) : Int) := by rw [Int.natCast_emod, Int.ofNat_sub (by omega)]; rfl
    rw [this, h4]; rfl
  have hmit : ((p : Int) - 1).tmod (2 * (k : Int)) = 0 := by rw [Int.tmod_eq_emod_of_nonneg (by omega), hmi]
  have hk0 : ¬ 2 * k = 0 := by omega
  have q3 : decide ((R : Int) < 1) = false := decide_eq_false (by omega)
  have q3' : ¬ R < 1 := by omega
  clear hn hdim hodd hpr h4
  go_enter Try.func18, Try.ntmps18
  go_wp2_with fail
  (with_reducible refine (dim_b _ HD.out _).mono ?_)
  rintro e w4 ⟨rfl, hw4⟩
  subst hw4
  go_wp2_with fail
  (with_reducible refine HP.out.mono ?_)
  rintro e w5 ⟨rfl, hb5⟩
  go_wp2_with fail
  clear hmi hmit
  go_loop [8, 36] (fun T I => ∃ i t : Nat, I = .int .i64 (i : Int) ∧ T = .int .u64 (t : Int) ∧ i ≤ R ∧ p ^ i = t ∧ t ≤ 2147483647) (fun _ I => R - (intOf I).toNat)
  case atStart => exact ⟨0, 1, rfl, rfl, Nat.zero_le _, Nat.pow_zero _, by omega⟩
  case round =>
    obtain ⟨i, t, rfl, rfl, hi, ht, htb⟩ := hrel
    have HT := Lib.hid ht
    clear ht
    by_cases hin : i < R
    · have q4 : decide ((i : Int) < (R : Int)) = true := decide_eq_true (by omega)
      obtain ⟨t2, ht2⟩ : ∃ t2, t * p = t2 := ⟨_, rfl⟩
      have hti : (t : Int) * (p : Int) = (t2 : Int) := by rw [← ht2]; simp
      have htb2 : t2 ≤ 9223372036854775807 := by rw [← ht2]; exact Nat.le_trans (Nat.mul_le_mul htb hp) (by omega)
      have HT2 : Hid (p ^ (i + 1) = t2) := Lib.hid (by rw [Nat.pow_succ, HT.out, ht2])
      clear ht2
      by_cases hbig : 2147483647 < t2
      · have q5 : decide ((t2 : Int) > 2147483647) = true := decide_eq_true (by omega)
        go_wp2
        go_ret2
        exact ⟨0, 7, rfl, HFIN.out (Nat.lt_of_lt_of_le hbig (by rw [← HT2.out]; exact Nat.pow_le_pow_right (by omega) hin)), hb5⟩
      · have q5 : decide ((t2 : Int) > 2147483647) = false := decide_eq_false (by omega)
        go_wp2
        go_round
        case rel => exact ⟨i + 1, t2, by go_num, rfl, hin, HT2.out, by omega⟩
        case measure => simp only [intOf]; omega
    · obtain rfl : i = R := by omega
      have q4 : decide ((i : Int) < (i : Int)) = false := decide_eq_false (by omega)
      go_wp2
      go_ret2
      exact ⟨t, 0, rfl, by have := HFIN2.out (by rw [HT.out]; omega); rw [HT.out] at this; exact this, hb5⟩
theorem pplain_any (n r : Int) (p : Nat) (w : World) (hp : p ≤ 4294967295) (hr1 : -9223372036854775808 ≤ r) (hr2 : r ≤ 9223372036854775807) :
    Calls Try.prog 18 #[.int .i64 n, .int .u32 p, .int .i64 r] w (RetF w (PlR n p r)) := by
  by_cases hb : PlBad n p r
  · exact pplain_bad n r p w hp hr1 hr2 hb
  · have hb' := hb
    unfold PlBad at hb'
    have hd : dimB n = true := by
      cases hd : dimB n
      · exact absurd (.inl hd) hb'
      · rfl
    obtain ⟨k, rfl, h1, h2⟩ := dim_nat hd
    have hkt : ((k : Int)).toNat = k := by omega
    rw [hkt] at hb'
    have hr : 1 ≤ r := Int.not_lt.1 fun h => hb' (.inr (.inr (.inr (.inr h))))
    obtain ⟨R, rfl⟩ : ∃ R : Nat, r = (R : Int) := ⟨r.toNat, by omega⟩
    exact pplain_good k R p w hp h1 h2 hd (by omega) (by omega) (fun h => hb' (.inr (.inl h))) (Classical.not_not.1 fun h => hb' (.inr (.inr (.inl h)))) (Classical.not_not.1 fun h => hb' (.inr (.inr (.inr (.inl h)))))

set_option maxRecDepth 100000 in
set_option maxHeartbeats 2000000 in
theorem rplain_bad (n r : Int) (p : Nat) (w : World) (hp : p ≤ 4294967295) (hr1 : -9223372036854775808 ≤ r) (hr2 : r ≤ 9223372036854775807) (hbad : PlBad n p r) :
    Calls Try.prog 19 #[.int .i64 n, .int .u32 p, .int .i64 r] w (RetF w (PlR n p r)) := by
  have HBAD := Lib.hid hbad
  have hc := plBad_cases hbad
  clear hbad
  rcases hc with h1 | ⟨h1, h2⟩ | ⟨h1, h2, h3⟩ | ⟨h1, h2, h3, h4⟩ | ⟨h1, h2, h3, h4, h5⟩
  · have HD := Lib.hid h1
    clear h1
    go_enter Try.func19, Try.ntmps19
    go_wp2_with fail
    (with_reducible refine (rdim_b _ HD.out _).mono ?_)
    rintro e w4 ⟨rfl, hw4⟩
    subst hw4
    go_wp2_with fail
    go_ret2
    exact ⟨0, 2, rfl, .inl ⟨HBAD.out, rfl, rfl⟩, Below.refl _ _⟩
  · have HD := Lib.hid h1
    obtain ⟨k, rfl, hk4, hk32⟩ := dim_nat h1
    clear h1
    have q1 : ((p : Int) % 2 == 0) = true := by simp; omega
    clear h2
    go_enter Try.func19, Try.ntmps19
    go_wp2_with fail
    (with_reducible refine (rdim_b _ HD.out _).mono ?_)
    rintro e w4 ⟨rfl, hw4⟩
    subst hw4
    go_wp2_with fail
    go_ret2
    exact ⟨0, 2, rfl, .inl ⟨HBAD.out, rfl, rfl⟩, Below.refl _ _⟩
  · have HD := Lib.hid h1
    obtain ⟨k, rfl, hk4, hk32⟩ := dim_nat h1
    clear h1
    have q1 : ((p : Int) % 2 == 0) = false := by simp; omega
    have hp1 : 1 ≤ p := by omega
    clear h2
    have HP := Lib.hid (rprime_any p w hp)
    rw [prB_no h3] at HP
    clear h3
    go_enter Try.func19, Try.ntmps19
    go_wp2_with fail
    (with_reducible refine (rdim_b _ HD.out _).mono ?_)
    rintro e w4 ⟨rfl, hw4⟩
    subst hw4
    go_wp2_with fail
    (with_reducible refine HP.out.mono ?_)
    rintro e w5 ⟨rfl, hw5⟩
    subst hw5
    go_wp2_with fail
    go_ret2
    exact ⟨0, 2, rfl, .inl ⟨HBAD.out, rfl, rfl⟩, Below.refl _ _⟩
  · have HD := Lib.hid h1
    obtain ⟨k, rfl, hk4, hk32⟩ := dim_nat h1
    clear h1
    have q1 : ((p : Int) % 2 == 0) = false := by simp; omega
    have hp1 : 1 ≤ p := by omega
    clear h2
    have HP := Lib.hid (rprime_any p w hp)
    rw [prB_yes h3] at HP
    clear h3
    have hkt : ((k : Int)).toNat = k := by omega
    rw [hkt] at h4
    clear hkt
    have hk0 : ¬ 2 * k = 0 := by omega
    obtain ⟨m, hm⟩ : ∃ m, (p - 1) % (2 * k) = m := ⟨_, rfl⟩
    rw [hm] at h4
    have hmi : ((p : Int) - 1) % (2 * (k : Int)) = (m : Int) := by rw [← hm, Int.natCast_emod, Int.ofNat_sub (by omega)]; rfl
    have hmit : ((p : Int) - 1).tmod (2 * (k : Int)) = (m : Int) := by rw [Int.tmod_eq_emod_of_nonneg (by omega), hmi]
    clear hm
    have q2 : ((m : Int) != 0) = true := by simp; omega
    clear h4
    go_enter Try.func19, Try.ntmps19
    go_wp2_with fail
    (with_reducible refine (rdim_b _ HD.out _).mono ?_)
    rintro e w4 ⟨rfl, hw4⟩
    subst hw4
    go_wp2_with fail
    (with_reducible refine HP.out.mono ?_)
    rintro e w5 ⟨rfl, hw5⟩
    subst hw5
    go_wp2_with fail
    go_ret2
    exact ⟨0, 2, rfl, .inl ⟨HBAD.out, rfl, rfl⟩, Below.refl _ _⟩
  · have HD := Lib.hid h1
    obtain ⟨k, rfl, hk4, hk32⟩ := dim_nat h1
    clear h1
    have q1 : ((p : Int) % 2 == 0) = false := by simp; omega
    have hp1 : 1 ≤ p := by omega
    clear h2
    have HP := Lib.hid (rprime_any p w hp)
    rw [prB_yes h3] at HP
    clear h3
    have hkt : ((k : Int)).toNat = k := by omega
    rw [hkt] at h4
    clear hkt
    have hk0 : ¬ 2 * k = 0 := by omega
    obtain ⟨m, hm⟩ : ∃ m, (p - 1) % (2 * k) = m := ⟨_, rfl⟩
    rw [hm] at h4
    have hmi : ((p : Int) - 1) % (2 * (k : Int)) = (m : Int) := by rw [← hm, Int.natCast_emod, Int.ofNat_sub (by omega)]; rfl
    have hmit : ((p : Int) - 1).tmod (2 * (k : Int)) = (m : Int) := by rw [Int.tmod_eq_emod_of_nonneg (by omega), hmi]
    clear hm
    have q2 : ((m : Int) != 0) = false := by simp; omega
    clear h4
    have q3 : decide (r < 1) = true := decide_eq_true (by omega)
    go_enter Try.func19, Try.ntmps19
    go_wp2_with fail
    (with_reducible refine (rdim_b _ HD.out _).mono ?_)
    rintro e w4 ⟨rfl, hw4⟩
    subst hw4
    go_wp2_with fail
    (with_reducible refine HP.out.mono ?_)
    rintro e w5 ⟨rfl, hw5⟩
    subst hw5
    go_wp2_with fail
    go_ret2
    exact ⟨0, 2, rfl, .inl ⟨HBAD.out, rfl, rfl⟩, Below.refl _ _⟩

set_option maxRecDepth 100000 in
set_option maxHeartbeats 2000000 in
theorem rplain_good (k R : Nat) (p : Nat) (w : World) (hp : p ≤ 4294967295) (hk4 : 4 ≤ k) (hk32 : k ≤ 32) (hdim : dimB (k : Int) = true) (hR1 : 1 ≤ R) (hR2 : R ≤ 9223372036854775807) (hodd : ¬ p % 2 = 0) (hpr : Mr.Pr p) (h4 : (p - 1) % (2 * k) = 0) :
    Calls Try.prog 19 #[.int .i64 (k : Int), .int .u32 p, .int .i64 (R : Int)] w (RetF w (PlR (k : Int) p (R : Int))) := by
  have hn : ¬ PlBad (k : Int) p (R : Int) := fun hb => by
    have hkt : ((k : Int)).toNat = k := by omega
    unfold PlBad at hb
    rw [hdim, hkt] at hb
    rcases hb with h | h | h | h | h
    · cases h
    · exact hodd h
    · exact h hpr
    · exact h h4
    · omega
  have hf1 : 2147483647 < p ^ R → PlR (k : Int) p (R : Int) 0 7 := fun hle => .inr (.inl ⟨hn, hle, rfl, rfl⟩)
  have hf2 : ¬ 2147483647 < p ^ R → PlR (k : Int) p (R : Int) (p ^ R) 0 := fun hle => .inr (.inr ⟨hn, hle, rfl, rfl⟩)
  have HFIN := Lib.hid hf1
  have HFIN2 := Lib.hid hf2
  clear hf1 hf2
  have HD := Lib.hid hdim
  have HP := Lib.hid (rprime_any p w hp)
  rw [prB_yes hpr] at HP
  have hp3 : 3 ≤ p := by have := hpr.1; omega
  have q1 : ((p : Int) % 2 == 0) = false := by simp; omega
  have hmi : ((p : Int) - 1) % (2 * (k : Int)) = 0 := by
    have : ((p : Int) - 1) % (2 * (k : Int)) = (((p - 1) % (2 * k) : Nat) : Int) := by rw [Int.natCast_emod, Int.ofNat_sub (by omega)]; rfl
    rw [this, h4]; rfl
  have hmit : ((p : Int) - 1).tmod (2 * (k : Int)) = 0 := by rw [Int.tmod_eq_emod_of_nonneg (by omega), hmi]
  have hk0 : ¬ 2 * k = 0 := by omega
  have q3 : decide ((R : Int) < 1) = false := decide_eq_false (by omega)
  have q3' : ¬ R < 1 := by omega
  clear hn hdim hodd hpr h4
  go_enter Try.func19, Try.ntmps19
  go_wp2_with fail
  (with_reducible refine (rdim_b _ HD.out _).mono ?_)
  rintro e w4 ⟨rfl, hw4⟩
  subst hw4
  go_wp2_with fail
  (with_reducible refine HP.out.mono ?_)
  rintro e w5 ⟨rfl, hw5⟩
  subst hw5
  go_wp2_with fail
  clear hmi hmit
  go_loop [8, 9] (fun T I => ∃ i t : Nat, I = .int .i64 (i : Int) ∧ T = .int .u64 (t : Int) ∧ i ≤ R ∧ p ^ i = t ∧ t ≤ 2147483647) (fun _ I => R - (intOf I).toNat)
  case atStart => exact ⟨0, 1, rfl, rfl, Nat.zero_le _, Nat.pow_zero _, by omega⟩
  case round =>
    obtain ⟨i, t, rfl, rfl, hi, ht, htb⟩ := hrel
    have HT := Lib.hid ht
    clear ht
    by_cases hin : i < R
    · have q4 : decide ((i : Int) < (R : Int)) = true := decide_eq_true (by omega)
      obtain ⟨t2, ht2⟩ : ∃ t2, t * p = t2 := ⟨_, rfl⟩
      have hti : (t : Int) * (p : Int) = (t2 : Int) := by rw [← ht2]; simp
      have htb2 : t2 ≤ 9223372036854775807 := by rw [← ht2]; exact Nat.le_trans (Nat.mul_le_mul htb hp) (by omega)
      have HT2 : Hid (p ^ (i + 1) = t2) := Lib.hid (by rw [Nat.pow_succ, HT.out, ht2])
      clear ht2
      by_cases hbig : 2147483647 < t2
      · have q5 : decide ((t2 : Int) > 2147483647) = true := decide_eq_true (by omega)
        go_wp2
        go_ret2
        exact ⟨0, 7, rfl, HFIN.out (Nat.lt_of_lt_of_le hbig (by rw [← HT2.out]; exact Nat.pow_le_pow_right (by omega) hin)), Below.refl _ _⟩
      · have q5 : decide ((t2 : Int) > 2147483647) = false := decide_eq_false (by omega)
        go_wp2
        go_round
        case rel => exact ⟨i + 1, t2, by go_num, rfl, hin, HT2.out, by omega⟩
        case measure => simp only [intOf]; omega
    · obtain rfl : i = R := by omega
      have q4 : decide ((i : Int) < (i : Int)) = false := decide_eq_false (by omega)
      go_wp2
      go_ret2
      exact ⟨t, 0, rfl, by have := HFIN2.out (by rw [HT.out]; omega); rw [HT.out] at this; exact this, Below.refl _ _⟩
theorem rplain_any (n r : Int) (p : Nat) (w : World) (hp : p ≤ 4294967295) (hr1 : -9223372036854775808 ≤ r) (hr2 : r ≤ 9223372036854775807) :
    Calls Try.prog 19 #[.int .i64 n, .int .u32 p, .int .i64 r] w (RetF w (PlR n p r)) := by
  by_cases hb : PlBad n p r
  · exact rplain_bad n r p w hp hr1 hr2 hb
  · have hb' := hb
    unfold PlBad at hb'
    have hd : dimB n = true := by
      cases hd : dimB n
      · exact absurd (.inl hd) hb'
      · rfl
    obtain ⟨k, rfl, h1, h2⟩ := dim_nat hd
    have hkt : ((k : Int)).toNat = k := by omega
    rw [hkt] at hb'
    have hr : 1 ≤ r := Int.not_lt.1 fun h => hb' (.inr (.inr (.inr (.inr h))))
    obtain ⟨R, rfl⟩ : ∃ R : Nat, r = (R : Int) := ⟨r.toNat, by omega⟩
    exact rplain_good k R p w hp h1 h2 hd (by omega) (by omega) (fun h => hb' (.inr (.inl h))) (Classical.not_not.1 fun h => hb' (.inr (.inr (.inl h)))) (Classical.not_not.1 fun h => hb' (.inr (.inr (.inr (.inl h)))))
end Go.Proofs.Ythepdpfiahcfmaa
