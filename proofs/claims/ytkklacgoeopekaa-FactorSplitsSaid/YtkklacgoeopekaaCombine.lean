/- The strong tests to the bases 2, 7 and 61 are exact below 2^32: plain Lean, no program in sight. -/
/- Contracts: the tests for primes are exact. -/
/- The contract of the program's test for primes: it is exact. -/
/- The contract of poly.Gcd. -/
/- The contract of poly.combine: a + c b modulo m, without the zeros at its end. -/
import Derived.Test.YtkklacgoeopekaaMrE
import Derived.Test.YtkklacgoeopekaaMrc1
import Derived.Test.YtkklacgoeopekaaMrc2
import Derived.Test.YtkklacgoeopekaaMrk1
import Derived.Test.YtkklacgoeopekaaMrk2
import Derived.Test.YtkklacgoeopekaaMra1
import Derived.Test.YtkklacgoeopekaaMra2
import Derived.Test.YtkklacgoeopekaaMrK
import Derived.Test.YtkklacgoeopekaaGcdPlain
import Derived.Test.YtkklacgoeopekaaRet
import Derived.Test.YtkklacgoeopekaaProduct
namespace Go.Proofs.Ytkklacgoeopekaa.Mr
/-! ### the strong tests to the bases 2, 7, 61 are exact below 2^32 -/
theorem dir_all {p : Nat} (h : 2049 ≤ p) (h2 : p < 65536) (ho : p % 2 = 1) : dirP p = true := by
  rcases Nat.lt_or_ge p 2751 with h3 | h3
  · have := dirs_ok _ _ k1 ((p - 2049) / 2) (by omega)
    rw [show 2049 + 2 * ((p - 2049) / 2) = p by omega] at this
    exact this
  rcases Nat.lt_or_ge p 4099 with h4 | h4
  · have := dirs_ok _ _ k2 ((p - 2751) / 2) (by omega)
    rw [show 2751 + 2 * ((p - 2751) / 2) = p by omega] at this
    exact this
  rcases Nat.lt_or_ge p 14003 with h5 | h5
  · have := dirs_ok _ _ k3 ((p - 4099) / 2) (by omega)
    rw [show 4099 + 2 * ((p - 4099) / 2) = p by omega] at this
    exact this
  rcases Nat.lt_or_ge p 65535 with h6 | h6
  · have := dirs_ok _ _ k4 ((p - 14003) / 2) (by omega)
    rw [show 14003 + 2 * ((p - 14003) / 2) = p by omega] at this
    exact this
  · obtain rfl : p = 65535 := by omega
    decide +kernel
theorem a_all {k : Nat} (h : 3 ≤ k) (h2 : k < 65536) (ho : k % 2 = 1) : chkA Zp k = true := by
  rcases Nat.lt_or_ge k 24003 with h3 | h3
  · have := partA_ok a1 ((k - 3) / 2) (by omega)
    rw [show 3 + 2 * ((k - 3) / 2) = k by omega] at this
    exact this
  rcases Nat.lt_or_ge k 40003 with h4 | h4
  · have := partA_ok a2 ((k - 24003) / 2) (by omega)
    rw [show 24003 + 2 * ((k - 24003) / 2) = k by omega] at this
    exact this
  rcases Nat.lt_or_ge k 54003 with h5 | h5
  · have := partA_ok a3 ((k - 40003) / 2) (by omega)
    rw [show 40003 + 2 * ((k - 40003) / 2) = k by omega] at this
    exact this
  · have := partA_ok a4 ((k - 54003) / 2) (by omega)
    rw [show 54003 + 2 * ((k - 54003) / 2) = k by omega] at this
    exact this
theorem root_all {i : Nat} (h : i < 306) : rootAt 128 (spl.drop i) = true := by
  have key : ∀ c j, roots 128 c (spl.drop j) = true → j ≤ i → i < j + c → rootAt 128 (spl.drop i) = true := fun c j hr h1 h2 => by
    have := roots_ok c _ hr (i - j) (by omega)
    rw [List.drop_drop] at this
    rw [show i = j + (i - j) by omega]
    exact this
  rcases Nat.lt_or_ge i 100 with h1 | h1
  · exact key 100 0 c1 (by omega) (by omega)
  rcases Nat.lt_or_ge i 200 with h2 | h2
  · exact key 100 100 c2 (by omega) (by omega)
  rcases Nat.lt_or_ge i 250 with h3 | h3
  · exact key 50 200 c3 (by omega) (by omega)
  rcases Nat.lt_or_ge i 280 with h4 | h4
  · exact key 30 250 c4 (by omega) (by omega)
  · exact key 26 280 c5 (by omega) (by omega)
theorem spl_len : spl.length = 306 := by decide +kernel
theorem mr {n : Nat} (h3 : 3 ≤ n) (hodd : n % 2 = 1) (hle : n ≤ NM) (h7 : n % 7 ≠ 0) (h61 : n % 61 ≠ 0) (hs : SP3 n) : Pr n := by
  refine Classical.byContradiction fun hc => ?_
  have hodd' : ∀ p, p ∣ n → p % 2 = 1 := fun p hd => by
    rcases Nat.mod_two_eq_zero_or_one p with h2 | h2
    · have := Nat.mod_eq_zero_of_dvd (Nat.dvd_trans (Nat.dvd_of_mod_eq_zero h2) hd)
      omega
    · exact h2
  by_cases hex : ∃ p, Pr p ∧ p ∣ n ∧ 2048 < p
  · obtain ⟨p, hp, ⟨k, rfl⟩, hp2⟩ := hex
    have hpo := hodd' p (Nat.dvd_mul_right p k)
    have hko := hodd' k (Nat.dvd_mul_left k p)
    have hk : 1 < k := by
      rcases Nat.lt_or_ge 1 k with h | h
      · exact h
      · obtain rfl : k = 1 := by omega
        rw [Nat.mul_one] at hc
        exact absurd hp hc
    rcases Nat.lt_or_ge p 65536 with h | h
    · exact dirP_ok (dir_all (by omega) h hpo) (hp.coprime fun hd => by have := prime_dvd_Z2 hp hd; omega) hpo hk hko hle hs
    · have hk2 : k < 65536 := by
        rcases Nat.lt_or_ge k 65536 with h4 | h4
        · exact h4
        · have := Nat.mul_le_mul h h4
          unfold NM at hle
          omega
      exact chkA_ok (a_all (by omega) hk2 hko) hp (by omega) hk hko hle hs
  · refine rootAt_ok (T := 128) spl_good (fun i hi => root_all (by rw [spl_len] at hi; exact hi)) hle (by omega) hodd (fun q hq hqn => ?_) hc hs
    have hq2 := hodd' q hqn
    refine spl_mem hq ?_ (by rintro rfl; omega) (by rintro rfl; exact h7 (Nat.mod_eq_zero_of_dvd hqn)) (by rintro rfl; exact h61 (Nat.mod_eq_zero_of_dvd hqn))
    rcases Nat.lt_or_ge q 2048 with h | h
    · exact h
    · have : q ≠ 2048 := by rintro rfl; omega
      exact absurd ⟨q, hq, hqn, by omega⟩ hex
/-- a prime passes the strong test -/
theorem Pr.sqrt {p x : Nat} (hp : Pr p) (h : x * x % p = 1 % p) : x % p = 1 % p ∨ x % p = p - 1 := by
  have hp1 := hp.1
  rcases Nat.eq_zero_or_pos x with h0 | h0
  · subst h0
    rw [Nat.zero_mul, Nat.zero_mod, Nat.mod_eq_of_lt (show 1 < p by omega)] at h
    omega
  have h1 : p ∣ x * x - 1 := dvd_sub_of_mod h.symm
  have e : x * x - 1 = (x + 1) * (x - 1) := by
    obtain ⟨y, rfl⟩ : ∃ y, x = y + 1 := ⟨x - 1, by omega⟩
    rw [Nat.add_sub_cancel, Nat.add_mul, Nat.mul_add, Nat.add_mul, Nat.add_mul]
    omega
  rw [e] at h1
  rcases hp.dvd_mul h1 with h2 | h2
  · right
    obtain ⟨c, hc⟩ := h2
    obtain ⟨d, rfl⟩ : ∃ d, c = d + 1 := ⟨c - 1, by
      rcases Nat.eq_zero_or_pos c with h3 | h3
      · subst h3; omega
      · omega⟩
    rw [Nat.mul_succ] at hc
    rw [show x = (p - 1) + p * d by omega, Nat.add_mul_mod_self_left, Nat.mod_eq_of_lt (by omega)]
  · left
    exact (mod_of_dvd_sub h0 h2).symm
theorem Pr.strong {p a : Nat} (hp : Pr p) (h2 : 2 < p) (h : ¬ p ∣ a) : SP a p := by
  have hsd : ∀ n, 0 < n → ∃ s d, n = 2 ^ s * d ∧ d % 2 = 1 := by
    intro n
    induction n using Nat.strongRecOn with
    | ind n ih =>
      intro h0
      rcases Nat.mod_two_eq_zero_or_one n with h1 | h1
      · obtain ⟨s, d, h3, h4⟩ := ih (n / 2) (by omega) (by omega)
        exact ⟨s + 1, d, by rw [Nat.pow_succ, Nat.mul_right_comm, ← h3]; omega, h4⟩
      · exact ⟨0, n, by rw [Nat.pow_zero, Nat.one_mul], h1⟩
  obtain ⟨s, d, h3, h4⟩ := hsd (p - 1) (by omega)
  refine ⟨s, d, h3, h4, ?_⟩
  have key : ∀ j, j ≤ s → a ^ (2 ^ j * d) % p = 1 % p → a ^ d % p = 1 ∨ ∃ r, r < s ∧ a ^ (2 ^ r * d) % p = p - 1 := by
    intro j
    induction j with
    | zero => intro _ h; rw [Nat.pow_zero, Nat.one_mul, Nat.mod_eq_of_lt (show 1 < p by omega)] at h; exact .inl h
    | succ j ih =>
      intro hj h
      rw [Nat.pow_succ, Nat.mul_right_comm, Nat.pow_mul, Nat.pow_two] at h
      rcases hp.sqrt h with h5 | h5
      · exact ih (by omega) h5
      · exact .inr ⟨j, by omega, h5⟩
  refine key s (Nat.le_refl _) ?_
  rw [← h3]
  exact flt hp h
end Go.Proofs.Ytkklacgoeopekaa.Mr

namespace Go.Proofs.Ytkklacgoeopekaa
open Go.RowKit

noncomputable def prB (n : Nat) : Bool := @decide (Mr.Pr n) (Classical.propDecidable _)
theorem prB_true {n : Nat} : prB n = true ↔ Mr.Pr n := by unfold prB; exact @decide_eq_true_iff (Mr.Pr n) (Classical.propDecidable _)
theorem prB_yes {n : Nat} (h : Mr.Pr n) : prB n = true := prB_true.2 h
theorem prB_no {n : Nat} (h : ¬ Mr.Pr n) : prB n = false := by
  cases hb : prB n
  · rfl
  · exact absurd (prB_true.1 hb) h

theorem pr_lit {p : Nat} (h2 : 2 ≤ p) (h : (List.range p).all (fun d => decide (d < 2) || p % d != 0) = true) : Mr.Pr p := by
  refine ⟨h2, fun d hd => ?_⟩
  have hle := Nat.le_of_dvd (by omega) hd
  rcases Nat.lt_or_ge d p with h1 | h1
  · have h3 := List.all_eq_true.1 h d (List.mem_range.2 h1)
    have h4 := Nat.mod_eq_zero_of_dvd hd
    rw [h4] at h3
    simp at h3
    have : d ≠ 0 := by
      rintro rfl
      have := Nat.eq_zero_of_zero_dvd hd
      omega
    omega
  · omega
theorem pr_of_mod {n p : Nat} (hp : Mr.Pr p) (h : n % p = 0) : prB n = (n == p) := by
  by_cases hn : n = p
  · subst hn
    rw [prB_yes hp]
    simp
  · have : ¬ Mr.Pr n := fun hpr => by
      have := hp.1
      rcases hpr.2 p (Nat.dvd_of_mod_eq_zero h) with h1 | h1 <;> omega
    rw [prB_no this]
    simp [hn]
theorem pr_of_sp {n a : Nat} (h2 : 2 < n) (ha : 0 < a) (han : n % a ≠ 0) (hpa : Mr.Pr a) (h : spB a n = false) : prB n = false := by
  refine prB_no fun hp => ?_
  have hs := hp.strong (a := a) h2 fun hd => by
    rcases hpa.2 n hd with h1 | h1
    · omega
    · subst h1; rw [Nat.mod_self] at han; exact han rfl
  rw [spB_yes hs] at h
  cases h
theorem pr_of_all {n : Nat} (h3 : 3 ≤ n) (hodd : n % 2 = 1) (hle : n ≤ 4294967295) (h7 : n % 7 ≠ 0) (h61 : n % 61 ≠ 0) (s2 : spB 2 n = true) (s7 : spB 7 n = true) (s61 : spB 61 n = true) : prB n = true :=
  prB_yes (Mr.mr h3 hodd hle h7 h61 ⟨spB_true.1 s2, spB_true.1 s7, spB_true.1 s61⟩)
theorem pr2 : Mr.Pr 2 := pr_lit (by omega) (by decide)
theorem pr7 : Mr.Pr 7 := pr_lit (by omega) (by decide)
theorem pr61 : Mr.Pr 61 := pr_lit (by omega) (by decide)

set_option maxHeartbeats 1000000 in
theorem rprime_any (n : Nat) (w : World) (hn : n ≤ 4294967295) : Calls Try.prog 60 #[.int .u32 n] w (RetP w (.bool (prB n))) := by
  by_cases h2 : n = 2
  · subst h2
    have hr := Lib.hid (prB_yes pr2)
    go_enter Try.func60, Try.ntmps60
    go_wp2
    go_ret
    exact ⟨by rw [hr.out]; rfl, rfl⟩
  by_cases h7 : n = 7
  · subst h7
    have hr := Lib.hid (prB_yes pr7)
    go_enter Try.func60, Try.ntmps60
    go_wp2
    go_ret
    exact ⟨by rw [hr.out]; rfl, rfl⟩
  by_cases h61 : n = 61
  · subst h61
    have hr := Lib.hid (prB_yes pr61)
    go_enter Try.func60, Try.ntmps60
    go_wp2
    go_ret
    exact ⟨by rw [hr.out]; rfl, rfl⟩
  have e2 : ((n : Int) == 2) = false := by simp; omega
  have e7 : ((n : Int) == 7) = false := by simp; omega
  have e61 : ((n : Int) == 61) = false := by simp; omega
  by_cases hlt : n < 3
  · have hr := Lib.hid (prB_no (n := n) fun hp => by have := hp.1; omega)
    have d1 : decide ((n : Int) > 2) = false := decide_eq_false (by omega)
    go_enter Try.func60, Try.ntmps60
    go_wp2
    go_ret
    exact ⟨by rw [hr.out]; rfl, rfl⟩
  have d1 : decide ((n : Int) > 2) = true := decide_eq_true (by omega)
  by_cases hodd : n % 2 = 1
  · have d2 : ((n : Int) % 2 == 1) = true := by simp; omega
    by_cases hm7 : n % 7 = 0
    · have hr := Lib.hid ((pr_of_mod pr7 hm7).trans (show (n == 7) = false by simpa using h7))
      have d3 : decide ((n : Int) % 7 > 0) = false := decide_eq_false (by omega)
      go_enter Try.func60, Try.ntmps60
      go_wp2
      go_ret
      exact ⟨by rw [hr.out]; rfl, rfl⟩
    have d3 : decide ((n : Int) % 7 > 0) = true := decide_eq_true (by omega)
    by_cases hm61 : n % 61 = 0
    · have hr := Lib.hid ((pr_of_mod pr61 hm61).trans (show (n == 61) = false by simpa using h61))
      have d4 : decide ((n : Int) % 61 > 0) = false := decide_eq_false (by omega)
      go_enter Try.func60, Try.ntmps60
      go_wp2
      go_ret
      exact ⟨by rw [hr.out]; rfl, rfl⟩
    have d4 : decide ((n : Int) % 61 > 0) = true := decide_eq_true (by omega)
    have H2 := Lib.hid (rstrong_any 2 n w (by omega) (by omega) hn hodd)
    have H7 := Lib.hid (rstrong_any 7 n w (by omega) (by omega) hn hodd)
    have H61 := Lib.hid (rstrong_any 61 n w (by omega) (by omega) hn hodd)
    cases s2 : spB 2 n
    · have hr := Lib.hid (pr_of_sp (by omega) (by omega) (by omega) pr2 s2)
      rw [s2] at H2
      clear H7 H61 s2
      go_enter Try.func60, Try.ntmps60
      go_wp2_with fail
      refine H2.out.mono ?_
      rintro r w1 ⟨rfl, rfl⟩
      go_wp2
      go_ret
      exact ⟨by rw [hr.out]; rfl, rfl⟩
    cases s7 : spB 7 n
    · have hr := Lib.hid (pr_of_sp (by omega) (by omega) hm7 pr7 s7)
      rw [s2] at H2
      rw [s7] at H7
      clear H61 s2 s7
      go_enter Try.func60, Try.ntmps60
      go_wp2_with fail
      refine H2.out.mono ?_
      rintro r w1 ⟨rfl, rfl⟩
      go_wp2_with fail
      refine H7.out.mono ?_
      rintro r w1 ⟨rfl, rfl⟩
      go_wp2
      go_ret
      exact ⟨by rw [hr.out]; rfl, rfl⟩
    have hr : prB n = spB 61 n := by
      cases s61 : spB 61 n
      · exact pr_of_sp (by omega) (by omega) hm61 pr61 s61
      · exact pr_of_all (by omega) hodd hn hm7 hm61 s2 s7 s61
    have HR := Lib.hid hr
    rw [s2] at H2
    rw [s7] at H7
    clear s2 s7 hr
    go_enter Try.func60, Try.ntmps60
    go_wp2_with fail
    refine H2.out.mono ?_
    rintro r w1 ⟨rfl, rfl⟩
    go_wp2_with fail
    refine H7.out.mono ?_
    rintro r w1 ⟨rfl, rfl⟩
    go_wp2_with fail
    refine H61.out.mono ?_
    rintro r w1 ⟨rfl, rfl⟩
    go_wp2
    go_ret
    exact ⟨by rw [HR.out]; rfl, rfl⟩
  · have d2 : ((n : Int) % 2 == 1) = false := by simp; omega
    have hr := Lib.hid ((pr_of_mod pr2 (show n % 2 = 0 by omega)).trans (show (n == 2) = false by simpa using h2))
    go_enter Try.func60, Try.ntmps60
    go_wp2
    go_ret
    exact ⟨by rw [hr.out]; rfl, rfl⟩
end Go.Proofs.Ytkklacgoeopekaa

namespace Go.Proofs.Ytkklacgoeopekaa
open Go.RowKit

def fewP : Nat → Nat := fun j => [2, 3, 5, 7, 11, 13, 61].getD j 0
def basP : Nat → Nat := fun j => [2, 7, 61].getD j 0

theorem pr_few {p : Nat} (h : p ∈ [2, 3, 5, 7, 11, 13, 61]) : Mr.Pr p := by
  simp at h
  rcases h with rfl | rfl | rfl | rfl | rfl | rfl | rfl <;> exact pr_lit (by omega) (by decide)

theorem fewP_bd {k : Nat} (h : k < 7) : 2 ≤ fewP k ∧ fewP k ≤ 61 := by
  rcases (show k = 0 ∨ k = 1 ∨ k = 2 ∨ k = 3 ∨ k = 4 ∨ k = 5 ∨ k = 6 by omega) with rfl | rfl | rfl | rfl | rfl | rfl | rfl <;> decide
theorem fewP_pr {k : Nat} (h : k < 7) : Mr.Pr (fewP k) := pr_few (by
  rcases (show k = 0 ∨ k = 1 ∨ k = 2 ∨ k = 3 ∨ k = 4 ∨ k = 5 ∨ k = 6 by omega) with rfl | rfl | rfl | rfl | rfl | rfl | rfl <;> decide)
theorem basP_pr {k : Nat} (h : k < 3) : Mr.Pr (basP k) := pr_few (by
  rcases (show k = 0 ∨ k = 1 ∨ k = 2 by omega) with rfl | rfl | rfl <;> decide)
theorem basP_bd {k : Nat} (h : k < 3) : 2 ≤ basP k ∧ basP k ≤ 61 := by
  rcases (show k = 0 ∨ k = 1 ∨ k = 2 by omega) with rfl | rfl | rfl <;> decide
set_option maxRecDepth 100000 in
theorem idx7 {k : Nat} (h : k < 7) : ∀ w, (Instr.index 91 (.agg #[.int .u32 2, .int .u32 3, .int .u32 5, .int .u32 7, .int .u32 11, .int .u32 13, .int .u32 61]) (.int .i64 (k : Int))).run Try.prog w = .ok (.int .u32 (fewP k : Int)) w := by
  rcases (show k = 0 ∨ k = 1 ∨ k = 2 ∨ k = 3 ∨ k = 4 ∨ k = 5 ∨ k = 6 by omega) with rfl | rfl | rfl | rfl | rfl | rfl | rfl <;> exact fun _ => by kernel_rfl
set_option maxRecDepth 100000 in
theorem idx3 {k : Nat} (h : k < 3) : ∀ w, (Instr.index 92 (.agg #[.int .u32 2, .int .u32 7, .int .u32 61]) (.int .i64 (k : Int))).run Try.prog w = .ok (.int .u32 (basP k : Int)) w := by
  rcases (show k = 0 ∨ k = 1 ∨ k = 2 by omega) with rfl | rfl | rfl <;> exact fun _ => by kernel_rfl

set_option maxHeartbeats 2000000 in
theorem prime_any (n : Nat) (w : World) (hn : n ≤ 4294967295) : Calls Try.prog 43 #[.int .u32 n] w (RetV w (.bool (prB n))) := by
  by_cases hlt : n < 2
  · have hr := Lib.hid (prB_no (n := n) fun hp => by have := hp.1; omega)
    have d1 : decide ((n : Int) < 2) = true := decide_eq_true (by omega)
    go_enter Try.func43, Try.ntmps43
    go_wp2
    go_ret
    exact ⟨by rw [hr.out]; rfl, Below.refl _ _⟩
  have d1 : decide ((n : Int) < 2) = false := decide_eq_false (by omega)
  go_enter Try.func43, Try.ntmps43
  go_wp2
  go_loopw [10] (fun x v => ∃ k : Nat, x = .int .i64 (k : Int) ∧ k ≤ 7 ∧ (∀ j, j < k → n % fewP j ≠ 0) ∧ v = w) (fun x _ => 7 - (intOf x).toNat)
  case atStart => exact ⟨0, rfl, by omega, fun j hj => absurd hj (Nat.not_lt_zero j), rfl⟩
  case round =>
    obtain ⟨k, rfl, hk, hne, rfl⟩ := hrel
    by_cases hk7 : k < 7
    · have hix := idx7 hk7
      obtain ⟨p, hp⟩ : ∃ p, fewP k = p := ⟨_, rfl⟩
      have hpp := fewP_pr hk7
      obtain ⟨hp2, hp61⟩ := fewP_bd hk7
      rw [hp] at hix hpp hp2 hp61
      by_cases h : n % p = 0
      · have hr := pr_of_mod hpp h
        have hr2 : ((n : Int) == (p : Int)) = prB n := by
          rw [hr]
          by_cases hnp : n = p
          · subst hnp; simp
          · have : ((n : Int) == (p : Int)) = false := by simp; omega
            rw [this]
            simp [hnp]
        have h0 : ((n : Int) % (p : Int) == 0) = true := by simp; omega
        have HR := Lib.hid hr2
        clear hr hr2 hne hpp hp h
        go_wp2
        go_ret
        exact ⟨by rw [← HR.out]; rfl, Below.refl _ _⟩
      · have h0 : ((n : Int) % (p : Int) == 0) = false := by simp; omega
        have HN := Lib.hid (show ∀ j, j < k + 1 → n % fewP j ≠ 0 from fun j hj => by
          rcases Nat.lt_or_ge j k with h1 | h1
          · exact hne j h1
          · obtain rfl : j = k := by omega
            rw [hp]; exact h)
        clear hne hpp hp h
        go_wp2
        go_roundw
        case rel => exact ⟨k + 1, by go_num, by omega, HN.out, trivial⟩
        case measure => simp [intOf]; omega
    · have h2 : n % 2 ≠ 0 := hne 0 (by omega)
      have h7 : n % 7 ≠ 0 := hne 3 (by omega)
      have h61 : n % 61 ≠ 0 := hne 6 (by omega)
      have hn3 : 3 ≤ n := by omega
      have hodd : n % 2 = 1 := by omega
      clear hne
      obtain ⟨w0, hw0⟩ : ∃ w0, w0 = wr := ⟨_, rfl⟩
      subst hw0
      go_wp2
      go_loopw [22] (fun x v => ∃ k : Nat, x = .int .i64 (k : Int) ∧ k ≤ 3 ∧ (∀ j, j < k → spB (basP j) n = true) ∧ Below w0.heap.size w0 v) (fun x _ => 3 - (intOf x).toNat)
      case atStart => exact ⟨0, rfl, by omega, fun j hj => absurd hj (Nat.not_lt_zero j), Below.refl _ _⟩
      case round =>
        obtain ⟨k, rfl, hk, hall, hbel⟩ := hrel
        by_cases hk3 : k < 3
        · have hix := idx3 hk3
          obtain ⟨p, hp⟩ : ∃ p, basP k = p := ⟨_, rfl⟩
          have hpp := basP_pr hk3
          obtain ⟨hp2, hp61⟩ := basP_bd hk3
          have hnp : n % basP k ≠ 0 := by
            rcases (show k = 0 ∨ k = 1 ∨ k = 2 by omega) with rfl | rfl | rfl
            · exact h2
            · exact h7
            · exact h61
          rw [hp] at hix hpp hp2 hp61 hnp
          have HPS := Lib.hid (passes_any p n wr (by omega) hn3 hn hodd)
          cases hs : spB p n
          · have hr := Lib.hid (pr_of_sp (by omega) (by omega) hnp hpp hs)
            rw [hs] at HPS
            clear hs hall hpp hp hnp
            go_wp2_with fail
            refine HPS.out.mono ?_
            rintro r w1 ⟨rfl, hb1⟩
            go_wp2
            go_ret
            exact ⟨by rw [hr.out]; rfl, hbel.trans (hb1.mono hbel.size)⟩
          · rw [hs] at HPS
            have HN := Lib.hid (show ∀ j, j < k + 1 → spB (basP j) n = true from fun j hj => by
              rcases Nat.lt_or_ge j k with h1 | h1
              · exact hall j h1
              · obtain rfl : j = k := by omega
                rw [hp]; exact hs)
            clear hs hall hpp hp hnp
            go_wp2_with fail
            refine HPS.out.mono ?_
            rintro r w1 ⟨rfl, hb1⟩
            go_wp2
            go_roundw
            case rel => exact ⟨k + 1, by go_num, by omega, HN.out, hbel.trans (hb1.mono hbel.size)⟩
            case measure => simp [intOf]; omega
        · obtain rfl : k = 3 := by omega
          have hr := Lib.hid (pr_of_all hn3 hodd hn h7 h61 (hall 0 (by omega)) (hall 1 (by omega)) (hall 2 (by omega)))
          clear hall
          go_wp2
          go_ret
          exact ⟨by rw [hr.out]; rfl, hbel⟩
end Go.Proofs.Ytkklacgoeopekaa

namespace Go.Proofs.Ytkklacgoeopekaa
open Go.RowKit

noncomputable def gcE (m n : Nat) (a : Nat → Nat) (nb : Nat) (b : Nat → Nat) : Nat := if prB m = true then chk2 m n a nb b else 2
noncomputable def gcV (m n : Nat) (a : Nat → Nat) (nb : Nat) (b : Nat → Nat) : Nat × (Nat → Nat) := if gcE m n a nb b = 0 then gcdF m n a nb b else (0, fun _ => 0)
noncomputable def RetGc (w : World) (m n : Nat) (a : Nat → Nat) (nb : Nat) (b : Nat → Nat) : Ending → World → Prop := RetSlE w (gcV m n a nb b).1 (gcV m n a nb b).2 (gcE m n a nb b)

theorem retGc_err {w w' : World} {m n nb x : Nat} {a b : Nat → Nat} (hx : gcE m n a nb b = x) (h0 : x ≠ 0) (hb : Below w.heap.size w w') : RetGc w m n a nb b (.returned (.tuple #[.slice none 0 0, .int .i64 (x : Int)])) w' := by
  have e1 : gcV m n a nb b = (0, fun _ => 0) := by unfold gcV; rw [hx, if_neg h0]
  unfold RetGc
  rw [e1, hx]
  exact ⟨none, 0, rfl, Nat.le_refl _, Sq.nil _ _ _ _ _, hb⟩
theorem retGc_ok {w w' : World} {m n nb k c : Nat} {a b f : Nat → Nat} {A : Option Addr} (hE : gcE m n a nb b = 0) (hP : gcdF m n a nb b = (k, f)) (hkc : k ≤ c) (hs : Sq .u32 w' w.heap.size w'.heap.size A k f) (hb : Below w.heap.size w w') :
    RetGc w m n a nb b (.returned (.tuple #[.slice A k c, .int .i64 0])) w' := by
  have e1 : gcV m n a nb b = (k, f) := by unfold gcV; rw [if_pos hE, hP]
  unfold RetGc
  rw [e1, hE]
  exact ⟨A, c, rfl, hkc, hs, hb⟩

theorem Own.empty {k : IntKind} {w : World} {base e : Nat} (h : base ≤ w.heap.size) : Own k (w.alloc (.cells #[] e)) base e (some ⟨w.heap.size, 0, none⟩) 0 0 (fun _ => 0) :=
  ⟨fun _ _ => rfl, rfl, .inr ⟨w.heap.size, 0, #[], rfl, h, by show (w.heap.push _)[w.heap.size]? = _; simp, Nat.le_refl _, Nat.zero_le _, rfl, rfl⟩⟩

set_option maxHeartbeats 2000000 in
theorem gcd_any (m n nb ca cb : Nat) (A B : Option Addr) (a b : Nat → Nat) (w : World) (ha : Sq .u32 w 0 w.heap.size A n a) (hb : Sq .u32 w 0 w.heap.size B nb b) (hm : m ≤ 4294967295) (hn : n ≤ 9223372036854775807) (hnb : nb ≤ 9223372036854775807) :
    Calls Try.prog 30 #[.int .u32 m, .slice A n ca, .slice B nb cb] w (RetGc w m n a nb b) := by
  have HP := Lib.hid (prime_any m w hm)
  cases hpr : prB m
  · have hE : gcE m n a nb b = 2 := by unfold gcE; rw [hpr]; rfl
    have HE := Lib.hid hE
    rw [hpr] at HP
    clear hpr hE
    go_enter Try.func30, Try.ntmps30
    go_wp2_with fail
    refine HP.out.mono ?_
    rintro e w1 ⟨rfl, hb1⟩
    go_wp2
    go_ret2
    exact retGc_err HE.out (by decide) hb1
  have hE0 : gcE m n a nb b = chk2 m n a nb b := by unfold gcE; rw [hpr]; rfl
  have hprime := prB_true.1 hpr
  rw [hpr] at HP
  clear hpr
  by_cases hmm : 2147483647 < m
  · have hE : gcE m n a nb b = 2 := by rw [hE0]; unfold chk2; rw [chk_m (.inr hmm)]; rfl
    have HE := Lib.hid hE
    have hd : decide ((m : Int) > 2147483647) = true := decide_eq_true (by omega)
    clear hE hE0
    go_enter Try.func30, Try.ntmps30
    go_wp2_with fail
    refine HP.out.mono ?_
    rintro e w1 ⟨rfl, hb1⟩
    go_wp2
    go_ret2
    exact retGc_err HE.out (by decide) hb1
  have hd : decide ((m : Int) > 2147483647) = false := decide_eq_false (by omega)
  have HA := Lib.hid (And.intro ha hb)
  by_cases hc : chk2 m n a nb b = 0
  · have HE := Lib.hid (hE0.trans hc)
    have HC := Lib.hid hc
    obtain ⟨hc1, hc2⟩ := chk2_zero hc
    obtain ⟨m1, m2, n1, _, n3⟩ := chk_zero hc1
    obtain ⟨_, _, b1, _, b3⟩ := chk_zero hc2
    have HRA := Lib.hid (show Res m (n, a) from ⟨vals_lt hc1 ha.1, ha.1, tl_of_last n3⟩)
    have HRB := Lib.hid (show Res m (nb, b) from ⟨vals_lt hc2 hb.1, hb.1, tl_of_last b3⟩)
    have HPR := Lib.hid hprime
    clear hc hE0 hc1 hc2 n3 b3 ha hb hprime
    go_enter Try.func30, Try.ntmps30
    go_wp2_with fail
    refine HP.out.mono ?_
    rintro e w1 ⟨rfl, hb1⟩
    have hz1 := hb1.size
    have HV := Lib.hid (valid2_call m n nb ca cb A B a b w1 0 w.heap.size (HA.out.1.below hb1 (Nat.le_refl _)) (HA.out.2.below hb1 (Nat.le_refl _)) hn hnb hz1)
    rw [HC.out] at HV
    go_wp2_with fail
    refine (HV.out _ rfl).mono ?_
    rintro e w2 ⟨rfl, hb2⟩
    have hb02 := hb1.trans (hb2.mono hz1)
    have hz2 := hb02.size
    have HA2 := Lib.hid (And.intro ((HA.out.1.below hb02 (Nat.le_refl _)).wide (Nat.le_refl _) hz2) ((HA.out.2.below hb02 (Nat.le_refl _)).wide (Nat.le_refl _) hz2))
    go_wp2_with (first
      | (at_builtin; refine wpl_append rfl (.tmp 32) (.tmp 33) _ rfl e32 rfl (Own.empty (base := w2.heap.size) (Nat.le_refl _)) rfl (HA2.out.1.below ((Below.refl w2.heap.size w2).alloc (Nat.le_refl _) _) (Nat.le_refl _)) a (fun j h => absurd h (Nat.not_lt_zero j)) (fun j => by rw [Nat.zero_add]) (by unfold maxLen; omega) (by omega) (by simp) ?_; intro A3 c3 w3 hown3 hg3 hb3 hat3; rw [Nat.zero_add] at hown3)
      | (at_builtin; refine wpl_append rfl (.tmp 35) (.tmp 36) _ rfl e32 rfl (Own.empty (base := w2.heap.size) (by have := hb3.size; simp at this; omega)) rfl ((HA2.out.2.below (((Below.refl w2.heap.size w2).alloc (Nat.le_refl _) _).trans (hb3.mono (by simp))) (Nat.le_refl _)).below ((Below.refl w3.heap.size w3).alloc (Nat.le_refl _) _) (by have := hb3.size; simp at this; omega)) b (fun j h => absurd h (Nat.not_lt_zero j)) (fun j => by rw [Nat.zero_add]) (by unfold maxLen; omega) (by omega) (by have := hb3.size; simp at this ⊢; omega) ?_; intro A4 c4 w4 hown4 hg4 hb4 hat4; rw [Nat.zero_add] at hown4))
    have hz3 := hb3.size
    have hz4 := hb4.size
    rw [World.size_alloc] at hz3 hz4
    have hsa := ((hown3.sq (Nat.le_refl _)).below ((Below.refl w3.heap.size w3).alloc (Nat.le_refl _) (.cells #[] 22)) (Nat.le_refl _)).grown hg4 (.inr (Nat.le_refl _)) (by rw [World.size_alloc]; omega)
    have hsb := hown4.sq (Nat.le_refl _)
    have hca := hown3.le
    have hcb := hown4.le
    have hbel4 : Below w2.heap.size w2 w4 := ((((Below.refl w2.heap.size w2).alloc (Nat.le_refl _) _).trans hb3).alloc (by omega) _).trans hb4
    have HS4 := Lib.hid (And.intro (hsa.wide (Nat.le_refl _) (show w3.heap.size ≤ w4.heap.size by omega)) (And.intro hsb hbel4))
    clear hown3 hown4 hg3 hb3 hat3 hg4 hb4 hat4 hsa hsb hbel4
    obtain ⟨P0, hP0⟩ : ∃ P0, gcdP m 301 (n, a) (nb, b) = P0 := ⟨_, rfl⟩
    have HP0 := Lib.hid hP0
    have hPe := hP0
    go_loopw [9, 10] (fun X Y wr => ∃ (k nx cx ny cy : Nat) (fx fy : Nat → Nat) (Ax Ay : Option Addr), X = .slice Ax nx cx ∧ Y = .slice Ay ny cy ∧ nx ≤ cx ∧ ny ≤ cy ∧ Sq .u32 wr w2.heap.size wr.heap.size Ax nx fx ∧ Sq .u32 wr w2.heap.size wr.heap.size Ay ny fy ∧
      Res m (nx, fx) ∧ Res m (ny, fy) ∧ nx ≤ 256 ∧ ny ≤ 256 ∧ ny < k ∧ gcdP m k (nx, fx) (ny, fy) = P0 ∧ Below w2.heap.size w2 wr) (fun _ Y _ => match Y with | .slice _ k _ => k | _ => 0)
    case atStart =>
      obtain ⟨g1, g2, g3⟩ := HS4.out
      exact ⟨301, n, c3, nb, c4, a, b, A3, A4, rfl, rfl, hca, hcb, g1, g2, HRA.out, HRB.out, n1, b1, by omega, HP0.out, g3⟩
    case round =>
      clear HS4 HP0 hP0 hca hcb hz3 hz4 HA2 HRA HRB
      obtain ⟨k, nx, cx, ny, cy, fx, fy, Ax, Ay, rfl, rfl, hcx, hcy, hsx, hsy, hrx, hry, hnx, hny, hk, hP, hbel⟩ := hrel
      have hzr := hbel.size
      by_cases h0 : ny = 0
      · subst h0
        rw [gcdP_zero rfl] at hP
        by_cases hx0 : nx = 0
        · subst hx0
          have hfx : fx = fun _ => 0 := funext fun j => hsx.1 j (Nat.zero_le j)
          have hG : gcdF m n a nb b = (0, fun _ => 0) := by
            unfold gcdF
            rw [hPe, ← hP]
            rfl
          have HG := Lib.hid hG
          have hun := unit_any m 0 cx Ax fx wr _ _ hsx (by omega) m1 m2 (hrx.1 _)
          rw [unitF_nil] at hun
          have HUN := Lib.hid hun
          have HB := Lib.hid hbel
          clear hG hun hsx hsy hrx hry hP hbel hfx
          go_wp2_with fail
          refine HUN.out.mono ?_
          rintro e w5 ⟨rfl, hb5⟩
          go_wp2
          go_ret2
          exact retGc_ok HE.out HG.out (Nat.zero_le _) (Sq.nil _ _ _ _ _) (hb02.trans ((HB.out.trans (hb5.mono hzr)).mono hz2))
        · obtain ⟨iv, hu, hiv, hinv⟩ := unit_prime HPR.out hrx (by omega)
          have hG : gcdF m n a nb b = prodP m (nx, fx) (1, oneF iv) := by
            unfold gcdF
            rw [hPe, ← hP]
            show (if nx = 0 then _ else prodP m (nx, fx) (1, oneF (unitF m nx fx).1)) = _
            rw [if_neg hx0, hu]
          have HG := Lib.hid hG
          have hun := unit_any m nx cx Ax fx wr _ _ hsx (by omega) m1 m2 (hrx.1 _)
          rw [hu] at hun
          have HUN := Lib.hid hun
          have HB := Lib.hid (And.intro hbel (And.intro hsx hrx))
          clear hG hun hsx hsy hrx hry hP hbel hu hinv
          go_wp2_with fail
          refine HUN.out.mono ?_
          rintro e w5 ⟨rfl, hb5⟩
          have hz5 := hb5.size
          go_wp2_with fail
          have hb6 : Below w5.heap.size w5 (w5.alloc (.cells #[.int .u32 (iv : Int)] 22)) := (Below.refl _ _).alloc (Nat.le_refl _) _
          have hs6 : Sq .u32 (w5.alloc (.cells #[.int .u32 (iv : Int)] 22)) 0 (w5.heap.size + 1) (some ⟨w5.heap.size, 0, none⟩) 1 (oneF iv) := sq_one rfl (Nat.zero_le _) (Nat.lt_succ_self _)
          have hone : ∀ j, oneF iv j < m := fun j => by unfold oneF; split <;> omega
          refine (product_any m nx 1 cx 1 Ax _ fx (oneF iv) (w5.alloc (.cells #[.int .u32 (iv : Int)] 22)) 0 (w5.heap.size + 1) ((((HB.out.2.1.below hb5 (Nat.le_refl _)).below hb6 hz5)).wide (Nat.zero_le _) (by omega)) hs6 (by omega) m2 HB.out.2.2.1 hone (by omega) (by omega) (by rw [World.size_alloc]; exact Nat.le_refl _)).mono ?_
          rintro e w7 ⟨A7, c7, rfl, h1, h2, h3⟩
          have HQ := Lib.hid (And.intro h1 (And.intro h2 h3))
          clear h1 h2 h3 hone hs6 hb6
          go_wp2
          go_ret2
          have hz7 := HQ.out.2.2.size
          rw [World.size_alloc] at hz7
          have hbel7 : Below w5.heap.size w5 w7 := ((Below.refl w5.heap.size w5).alloc (Nat.le_refl _) _).trans (HQ.out.2.2.mono (by rw [World.size_alloc]; omega))
          exact retGc_ok HE.out HG.out HQ.out.1 (HQ.out.2.1.wide (by rw [World.size_alloc]; omega) (Nat.le_refl _)) (hb02.trans ((HB.out.1.trans ((hb5.trans (hbel7.mono hz5)).mono hzr)).mono hz2))
      · obtain ⟨k', rfl⟩ : ∃ k', k = k' + 1 := ⟨k - 1, by omega⟩
        obtain ⟨iv, hu, hiv, hinv⟩ := unit_prime HPR.out hry (by omega)
        rw [gcdP_succ h0] at hP
        have hP' : gcdP m k' (ny, fy) (restP m ny fy iv (nx, fx)) = P0 := by
          rw [← hP]
          show gcdP m k' (ny, fy) (restP m ny fy iv (nx, fx)) = gcdP m k' (ny, fy) (restP m ny fy (unitF m ny fy).1 (nx, fx))
          rw [hu]
        obtain ⟨r1, r2, r3⟩ := res_rest (iv := iv) (b := fy) (nb := ny) hrx (by omega) (by omega) hinv hry.2.1
        have hun := unit_any m ny cy Ay fy wr _ _ hsy (by omega) m1 m2 (hry.1 _)
        rw [hu] at hun
        have HUN := Lib.hid hun
        have H := Lib.hid (And.intro hsx (And.intro hsy (And.intro hrx (And.intro hry (And.intro hP' (And.intro hbel r1))))))
        have r2' : (restP m ny fy iv (nx, fx)).1 < ny := r2
        have r3' : (restP m ny fy iv (nx, fx)).1 ≤ nx := r3
        clear hun hsx hsy hrx hry hP hP' hbel r1 r2 r3 hu hinv
        go_wp2_with fail
        refine HUN.out.mono ?_
        rintro e w5 ⟨rfl, hb5⟩
        have hz5 := hb5.size
        go_wp2_with fail
        refine (divide_any m iv nx ny cx cy Ax Ay fx fy w5 _ _ (H.out.1.below hb5 (Nat.le_refl _)) (H.out.2.1.below hb5 (Nat.le_refl _)) (by omega) m2 hiv H.out.2.2.1.1 H.out.2.2.2.1.1 (by omega) (by omega) hz5 (by omega)).mono ?_
        rintro e w6 ⟨A1, c1, A2, c2, rfl, _, g2, _, g4, g5⟩
        have hz6 := g5.size
        have HQ := Lib.hid (And.intro g4 g5)
        obtain ⟨T, hT⟩ : ∃ T, tl (dR m ny fy iv (dL nx ny) fx) nx = T := ⟨_, rfl⟩
        have hT2 : T < ny := by rw [← hT]; exact r2'
        have hT3 : T ≤ nx := by rw [← hT]; exact r3'
        have HT := Lib.hid hT
        rw [hT] at g2
        clear g4 g5 r2' r3'
        rw [hT]
        clear hT
        go_wp2
        go_roundw
        case rel =>
          have e1 : restP m ny fy iv (nx, fx) = (T, dR m ny fy iv (dL nx ny) fx) := by rw [← HT.out]; rfl
          have hP := H.out.2.2.2.2.1
          have hr := H.out.2.2.2.2.2.2
          have hs := HQ.out.1
          rw [e1] at hP hr
          rw [HT.out] at hs
          exact ⟨k', ny, cy, T, c2, fy, _, Ay, A2, rfl, rfl, hcy, g2, ((H.out.2.1.below hb5 (Nat.le_refl _)).below HQ.out.2 hz5).wide (Nat.le_refl _) (by omega), hs.wide (by omega) (Nat.le_refl _), H.out.2.2.2.1, hr, hny, by omega, by omega, hP, H.out.2.2.2.2.2.1.trans ((hb5.trans (HQ.out.2.mono hz5)).mono hzr)⟩
        case measure => simpa using hT2
  · obtain ⟨x, hx⟩ : ∃ x, chk2 m n a nb b = x := ⟨_, rfl⟩
    have HE := Lib.hid (hE0.trans hx)
    rw [hx] at hc
    have HX := Lib.hid hx
    have hxz : ((x : Int) != 0) = true := by simp; omega
    clear hx ha hb hE0 hprime
    go_enter Try.func30, Try.ntmps30
    go_wp2_with fail
    refine HP.out.mono ?_
    rintro e w1 ⟨rfl, hb1⟩
    have hz1 := hb1.size
    have HV := Lib.hid (valid2_call m n nb ca cb A B a b w1 0 w.heap.size (HA.out.1.below hb1 (Nat.le_refl _)) (HA.out.2.below hb1 (Nat.le_refl _)) hn hnb hz1)
    rw [HX.out] at HV
    go_wp2_with fail
    refine (HV.out _ rfl).mono ?_
    rintro e w2 ⟨rfl, hb2⟩
    go_wp2
    go_ret2
    exact retGc_err HE.out hc (hb1.trans (hb2.mono hz1))
end Go.Proofs.Ytkklacgoeopekaa

namespace Go.Proofs.Ytkklacgoeopekaa
open Go.RowKit

def combF (m : Nat) (a b : Nat → Nat) (c : Nat) : Nat → Nat := fun j => (a j + b j * c) % m

set_option maxHeartbeats 400000 in
theorem combine_any (m c n nb ca cb : Nat) (A B : Option Addr) (a b : Nat → Nat) (w : World) (lo hi : Nat) (ha : Sq .u32 w lo hi A n a) (hb : Sq .u32 w lo hi B nb b)
    (hm : 0 < m) (hm2 : m ≤ 2147483647) (hc : c < m) (haa : ∀ j, a j < m) (hbb : ∀ j, b j < m) (hn : n ≤ 1000) (hnb : nb ≤ 1000) (hhi : hi ≤ w.heap.size) :
    Calls Try.prog 53 #[.int .u32 m, .slice A n ca, .slice B nb cb, .int .u32 c] w (RetSl w (tl (combF m a b c) (max n nb)) (combF m a b c)) := by
  obtain ⟨N, hN⟩ : ∃ N, N = max n nb := ⟨_, rfl⟩
  rw [← hN]
  have hN3 : N ≤ 1000 := by omega
  have hN1 : n ≤ N := by omega
  have hN2 : nb ≤ N := by omega
  rcases Nat.lt_or_ge n nb with hlt | hlt
  all_goals
    have HN := Lib.hid hN
    clear hN
    go_enter Try.func53, Try.ntmps53
    go_wp2_with (first
      | (at_make; refine wpl_make rfl _ _ _ rfl e32 .i64 .i64 _ _ _ rfl rfl rfl rfl (by omega) (by unfold maxLen; omega) ?_; intro w1 hr1 hb1 hs1)
      | ((with_reducible show wpList _ _ _ _ _ _); refine wpl_copy rfl _ _ _ rfl e32 rfl hr1 rfl (ha.below hb1 hhi) (by omega) ?_; intro w2 hr2 hb2))
    go_loopw [23] (fun i wr => ∃ k : Nat, k ≤ nb ∧ i = .int .i64 k ∧ wr.rowIs w.heap.size 22 N (ku .u32 fun j => if j < k then (a j + b j * c) % m else a j) ∧ Below w.heap.size w wr ∧ w.heap.size < wr.heap.size) (fun i _ => nb - (intOf i).toNat)
    case atStart =>
      refine ⟨0, Nat.zero_le _, rfl, ?_, hb1.trans hb2, by have := hb2.size; omega⟩
      refine (rowIs_n hr2 (by have := HN.out; omega)).congr fun j hj => ?_
      simp only [ku, Nat.not_lt_zero, if_false]
      split
      · rfl
      · rw [ha.1 j (by omega)]
    case round =>
      clear hr1 hr2 hb1 hb2 hs1
      obtain ⟨k, hk, rfl, hr, hbel, hsz⟩ := hrel
      by_cases hkn : k < nb
      · obtain ⟨g, off, rfl, _, hg, hcell⟩ := hb.2 (by omega)
        have hc1 : wr.cell? ⟨g, off + k, none⟩ = some (.int .u32 (b k : Nat)) := (hbel.cell (show g < w.heap.size by omega)).trans (hcell k hkn)
        have hc2 := hr.cell (show k < N by omega)
        simp only [ku, Nat.lt_irrefl, if_false] at hc2
        have hf2 := hr.frozen k
        obtain ⟨x, hx⟩ : ∃ x, b k = x := ⟨_, rfl⟩
        obtain ⟨y, hy⟩ : ∃ y, a k = y := ⟨_, rfl⟩
        have hxm := hbb k
        have hym := haa k
        rw [hx] at hc1 hxm
        rw [hy] at hc2 hym
        have hxc2 : (x : Int) * (c : Int) ≤ 4611686009837453316 := mul_lt_int hxm hc hm2
        have hxc3 : 0 ≤ (x : Int) * (c : Int) := Int.mul_nonneg (Int.natCast_nonneg _) (Int.natCast_nonneg _)
        have hd1 : 0 ≤ ((y : Int) + (x : Int) * (c : Int)) % (m : Int) := Int.emod_nonneg _ (by omega)
        have hd2 : ((y : Int) + (x : Int) * (c : Int)) % (m : Int) < (m : Int) := Int.emod_lt_of_pos _ (by omega)
        have HX := Lib.hid hx
        have HY := Lib.hid hy
        have HR := Lib.hid hr
        clear hx hy hcell hb hr
        go_wp2
        go_roundw
        case rel =>
          refine ⟨k + 1, by omega, by go_num, ?_, hbel.setCell (Nat.le_refl _) _, by simpa using hsz⟩
          have e1 : ((y : Int) + (x : Int) * (c : Int)) % (m : Int) = (((y + x * c) % m : Nat) : Int) := by simp
          rw [e1]
          refine (rowIs_set_ku HR.out k ((y + x * c) % m)).congr fun j _ => ?_
          simp only [ku]
          congr 2
          by_cases h1 : j = k
          · subst h1
            rw [if_pos rfl, if_pos (by omega), HX.out, HY.out]
          · rw [if_neg h1]
            by_cases h2 : j < k
            · rw [if_pos h2, if_pos (by omega)]
            · rw [if_neg h2, if_neg (by omega)]
        case measure => simp [intOf]; omega
      · have hsq : Sq .u32 wr w.heap.size wr.heap.size (some ⟨w.heap.size, 0, none⟩) N (combF m a b c) := by
          refine Sq.of_row hr (Nat.le_refl _) (Nat.le_refl _) hsz (fun j hj => ?_) fun j hj => ?_
          · simp only [combF]
            rw [ha.1 j (by omega), hb.1 j (by omega)]
            simp
          · simp only [combF]
            split
            · rfl
            · rw [hb.1 j (by omega), Nat.zero_mul, Nat.add_zero, Nat.mod_eq_of_lt (haa j)]
        have HS := Lib.hid hsq
        clear hsq hr ha hb haa hbb
        go_wp2_with (go_at_call 68; refine (trim_any _ _ _ _ _ _ _ (sq_n HS.out (by have := HN.out; omega)) (Nat.le_refl _) (by omega)).mono ?_; rintro e w' ⟨rfl, rfl⟩)
        go_ret
        have hT := tl_le (combF m a b c) N
        refine ⟨_, _, ret_slice (congrArg (tl (combF m a b c)) (by have := HN.out; omega)), by have := HN.out; omega, ?_, hbel⟩
        exact sq_tl HS.out
end Go.Proofs.Ytkklacgoeopekaa
