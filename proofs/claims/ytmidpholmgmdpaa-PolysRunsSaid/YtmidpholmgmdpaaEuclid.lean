/- The strong tests to the bases 2, 7 and 61 are exact below 2^32: plain Lean, no program in sight. -/
/- Contracts: the tests for primes are exact. -/
/- The contract of the program's test for primes: it is exact. -/
/- Euclid's rule with the multiples of a that yield the rests: plain arithmetic. -/
import Derived.Test.YtmidpholmgmdpaaMrE
import Derived.Test.YtmidpholmgmdpaaMrc1
import Derived.Test.YtmidpholmgmdpaaMrc2
import Derived.Test.YtmidpholmgmdpaaMrk1
import Derived.Test.YtmidpholmgmdpaaMrk2
import Derived.Test.YtmidpholmgmdpaaMra1
import Derived.Test.YtmidpholmgmdpaaMra2
import Derived.Test.YtmidpholmgmdpaaStrong
import Derived.Test.YtmidpholmgmdpaaAlg
namespace Go.Proofs.Ytmidpholmgmdpaa.Mr
/-! ### the strong tests to the bases 2, 7, 61 are exact below 2^32 -/
theorem dir_all {p : Nat} (h : 2049 ≤ p) (h2 : p < 65536) (ho : p % 2 = 1) : dirP p = true := by
  rcases Nat.lt_or_ge p 2751 with h3 | h3
  · have := dirs_ok _ _ k1 ((p - 2049) / 2) (by omega)
    rw [show 2049 + 2 * ((p - 2049) / 2) = p by omega] at this
    exact this
  rcases Nat.lt_or_ge p 4099 with h4 | h4
  · have := dirs_ok _ _ k2 ((p - 2751) / 2) (by omega)
    rw [show 2751 + 2 * ((p - 2751) / 2) = p by omega] at this
    exact this
  rcases Nat.lt_or_ge p 14003 with h5 | h5
  · have := dirs_ok _ _ k3 ((p - 4099) / 2) (by omega)
    rw [show 4099 + 2 * ((p - 4099) / 2) = p by omega] at this
    exact this
  rcases Nat.lt_or_ge p 65535 with h6 | h6
  · have := dirs_ok _ _ k4 ((p - 14003) / 2) (by omega)
    rw [show 14003 + 2 * ((p - 14003) / 2) = p by omega] at this
    exact this
  · obtain rfl : p = 65535 := by omega
    decide +kernel
theorem a_all {k : Nat} (h : 3 ≤ k) (h2 : k < 65536) (ho : k % 2 = 1) : chkA Zp k = true := by
  rcases Nat.lt_or_ge k 24003 with h3 | h3
  · have := partA_ok a1 ((k - 3) / 2) (by omega)
    rw [show 3 + 2 * ((k - 3) / 2) = k by omega] at this
    exact this
  rcases Nat.lt_or_ge k 40003 with h4 | h4
  · have := partA_ok a2 ((k - 24003) / 2) (by omega)
    rw [show 24003 + 2 * ((k - 24003) / 2) = k by omega] at this
    exact this
  rcases Nat.lt_or_ge k 54003 with h5 | h5
  · have := partA_ok a3 ((k - 40003) / 2) (by omega)
    rw [show 40003 + 2 * ((k - 40003) / 2) = k by omega] at this
    exact this
  · have := partA_ok a4 ((k - 54003) / 2) (by omega)
    rw [show 54003 + 2 * ((k - 54003) / 2) = k by omega] at this
    exact this
theorem root_all {i : Nat} (h : i < 306) : rootAt 128 (spl.drop i) = true := by
  have key : ∀ c j, roots 128 c (spl.drop j) = true → j ≤ i → i < j + c → rootAt 128 (spl.drop i) = true := fun c j hr h1 h2 => by
    have := roots_ok c _ hr (i - j) (by omega)
    rw [List.drop_drop] at this
    rw [show i = j + (i - j) by omega]
    exact this
  rcases Nat.lt_or_ge i 100 with h1 | h1
  · exact key 100 0 c1 (by omega) (by omega)
  rcases Nat.lt_or_ge i 200 with h2 | h2
  · exact key 100 100 c2 (by omega) (by omega)
  rcases Nat.lt_or_ge i 250 with h3 | h3
  · exact key 50 200 c3 (by omega) (by omega)
  rcases Nat.lt_or_ge i 280 with h4 | h4
  · exact key 30 250 c4 (by omega) (by omega)
  · exact key 26 280 c5 (by omega) (by omega)
theorem spl_len : spl.length = 306 := by decide +kernel
theorem mr {n : Nat} (h3 : 3 ≤ n) (hodd : n % 2 = 1) (hle : n ≤ NM) (h7 : n % 7 ≠ 0) (h61 : n % 61 ≠ 0) (hs : SP3 n) : Pr n := by
  refine Classical.byContradiction fun hc => ?_
  have hodd' : ∀ p, p ∣ n → p % 2 = 1 := fun p hd => by
    rcases Nat.mod_two_eq_zero_or_one p with h2 | h2
    · have := Nat.mod_eq_zero_of_dvd (Nat.dvd_trans (Nat.dvd_of_mod_eq_zero h2) hd)
      omega
    · exact h2
  by_cases hex : ∃ p, Pr p ∧ p ∣ n ∧ 2048 < p
  · obtain ⟨p, hp, ⟨k, rfl⟩, hp2⟩ := hex
    have hpo := hodd' p (Nat.dvd_mul_right p k)
    have hko := hodd' k (Nat.dvd_mul_left k p)
    have hk : 1 < k := by
      rcases Nat.lt_or_ge 1 k with h | h
      · exact h
      · obtain rfl : k = 1 := by omega
        rw [Nat.mul_one] at hc
        exact absurd hp hc
    rcases Nat.lt_or_ge p 65536 with h | h
    · exact dirP_ok (dir_all (by omega) h hpo) (hp.coprime fun hd => by have := prime_dvd_Z2 hp hd; omega) hpo hk hko hle hs
    · have hk2 : k < 65536 := by
        rcases Nat.lt_or_ge k 65536 with h4 | h4
        · exact h4
        · have := Nat.mul_le_mul h h4
          unfold NM at hle
          omega
      exact chkA_ok (a_all (by omega) hk2 hko) hp (by omega) hk hko hle hs
  · refine rootAt_ok (T := 128) spl_good (fun i hi => root_all (by rw [spl_len] at hi; exact hi)) hle (by omega) hodd (fun q hq hqn => ?_) hc hs
    have hq2 := hodd' q hqn
    refine spl_mem hq ?_ (by rintro rfl; omega) (by rintro rfl; exact h7 (Nat.mod_eq_zero_of_dvd hqn)) (by rintro rfl; exact h61 (Nat.mod_eq_zero_of_dvd hqn))
    rcases Nat.lt_or_ge q 2048 with h | h
    · exact h
    · have : q ≠ 2048 := by rintro rfl; omega
      exact absurd ⟨q, hq, hqn, by omega⟩ hex
/-- a prime passes the strong test -/
theorem Pr.sqrt {p x : Nat} (hp : Pr p) (h : x * x % p = 1 % p) : x % p = 1 % p ∨ x % p = p - 1 := by
  have hp1 := hp.1
  rcases Nat.eq_zero_or_pos x with h0 | h0
  · subst h0
    rw [Nat.zero_mul, Nat.zero_mod, Nat.mod_eq_of_lt (show 1 < p by omega)] at h
    omega
  have h1 : p ∣ x * x - 1 := dvd_sub_of_mod h.symm
  have e : x * x - 1 = (x + 1) * (x - 1) := by
    obtain ⟨y, rfl⟩ : ∃ y, x = y + 1 := ⟨x - 1, by omega⟩
    rw [Nat.add_sub_cancel, Nat.add_mul, Nat.mul_add, Nat.add_mul, Nat.add_mul]
    omega
  rw [e] at h1
  rcases hp.dvd_mul h1 with h2 | h2
  · right
    obtain ⟨c, hc⟩ := h2
    obtain ⟨d, rfl⟩ : ∃ d, c = d + 1 := ⟨c - 1, by
      rcases Nat.eq_zero_or_pos c with h3 | h3
      · subst h3; omega
      · omega⟩
    rw [Nat.mul_succ] at hc
    rw [show x = (p - 1) + p * d by omega, Nat.add_mul_mod_self_left, Nat.mod_eq_of_lt (by omega)]
  · left
    exact (mod_of_dvd_sub h0 h2).symm
theorem Pr.strong {p a : Nat} (hp : Pr p) (h2 : 2 < p) (h : ¬ p ∣ a) : SP a p := by
  have hsd : ∀ n, 0 < n → ∃ s d, n = 2 ^ s * d ∧ d % 2 = 1 := by
    intro n
    induction n using Nat.strongRecOn with
    | ind n ih =>
      intro h0
      rcases Nat.mod_two_eq_zero_or_one n with h1 | h1
      · obtain ⟨s, d, h3, h4⟩ := ih (n / 2) (by omega) (by omega)
        exact ⟨s + 1, d, by rw [Nat.pow_succ, Nat.mul_right_comm, ← h3]; omega, h4⟩
      · exact ⟨0, n, by rw [Nat.pow_zero, Nat.one_mul], h1⟩
  obtain ⟨s, d, h3, h4⟩ := hsd (p - 1) (by omega)
  refine ⟨s, d, h3, h4, ?_⟩
  have key : ∀ j, j ≤ s → a ^ (2 ^ j * d) % p = 1 % p → a ^ d % p = 1 ∨ ∃ r, r < s ∧ a ^ (2 ^ r * d) % p = p - 1 := by
    intro j
    induction j with
    | zero => intro _ h; rw [Nat.pow_zero, Nat.one_mul, Nat.mod_eq_of_lt (show 1 < p by omega)] at h; exact .inl h
    | succ j ih =>
      intro hj h
      rw [Nat.pow_succ, Nat.mul_right_comm, Nat.pow_mul, Nat.pow_two] at h
      rcases hp.sqrt h with h5 | h5
      · exact ih (by omega) h5
      · exact .inr ⟨j, by omega, h5⟩
  refine key s (Nat.le_refl _) ?_
  rw [← h3]
  exact flt hp h
end Go.Proofs.Ytmidpholmgmdpaa.Mr

namespace Go.Proofs.Ytmidpholmgmdpaa
open Go.RowKit

noncomputable def prB (n : Nat) : Bool := @decide (Mr.Pr n) (Classical.propDecidable _)
theorem prB_true {n : Nat} : prB n = true ↔ Mr.Pr n := by unfold prB; exact @decide_eq_true_iff (Mr.Pr n) (Classical.propDecidable _)
theorem prB_yes {n : Nat} (h : Mr.Pr n) : prB n = true := prB_true.2 h
theorem prB_no {n : Nat} (h : ¬ Mr.Pr n) : prB n = false := by
  cases hb : prB n
  · rfl
  · exact absurd (prB_true.1 hb) h

theorem pr_lit {p : Nat} (h2 : 2 ≤ p) (h : (List.range p).all (fun d => decide (d < 2) || p % d != 0) = true) : Mr.Pr p := by
  refine ⟨h2, fun d hd => ?_⟩
  have hle := Nat.le_of_dvd (by omega) hd
  rcases Nat.lt_or_ge d p with h1 | h1
  · have h3 := List.all_eq_true.1 h d (List.mem_range.2 h1)
    have h4 := Nat.mod_eq_zero_of_dvd hd
    rw [h4] at h3
    simp at h3
    have : d ≠ 0 := by
      rintro rfl
      have := Nat.eq_zero_of_zero_dvd hd
      omega
    omega
  · omega
theorem pr_of_mod {n p : Nat} (hp : Mr.Pr p) (h : n % p = 0) : prB n = (n == p) := by
  by_cases hn : n = p
  · subst hn
    rw [prB_yes hp]
    simp
  · have : ¬ Mr.Pr n := fun hpr => by
      have := hp.1
      rcases hpr.2 p (Nat.dvd_of_mod_eq_zero h) with h1 | h1 <;> omega
    rw [prB_no this]
    simp [hn]
theorem pr_of_sp {n a : Nat} (h2 : 2 < n) (ha : 0 < a) (han : n % a ≠ 0) (hpa : Mr.Pr a) (h : spB a n = false) : prB n = false := by
  refine prB_no fun hp => ?_
  have hs := hp.strong (a := a) h2 fun hd => by
    rcases hpa.2 n hd with h1 | h1
    · omega
    · subst h1; rw [Nat.mod_self] at han; exact han rfl
  rw [spB_yes hs] at h
  cases h
theorem pr_of_all {n : Nat} (h3 : 3 ≤ n) (hodd : n % 2 = 1) (hle : n ≤ 4294967295) (h7 : n % 7 ≠ 0) (h61 : n % 61 ≠ 0) (s2 : spB 2 n = true) (s7 : spB 7 n = true) (s61 : spB 61 n = true) : prB n = true :=
  prB_yes (Mr.mr h3 hodd hle h7 h61 ⟨spB_true.1 s2, spB_true.1 s7, spB_true.1 s61⟩)
theorem pr2 : Mr.Pr 2 := pr_lit (by omega) (by decide)
theorem pr7 : Mr.Pr 7 := pr_lit (by omega) (by decide)
theorem pr61 : Mr.Pr 61 := pr_lit (by omega) (by decide)

set_option maxHeartbeats 1000000 in
theorem rprime_any (n : Nat) (w : World) (hn : n ≤ 4294967295) : Calls Try.prog 70 #[.int .u32 n] w (RetP w (.bool (prB n))) := by
  by_cases h2 : n = 2
  · subst h2
    have hr := Lib.hid (prB_yes pr2)
    go_enter Try.func70, Try.ntmps70
    go_wp2
    go_ret
    exact ⟨by rw [hr.out]; rfl, rfl⟩
  by_cases h7 : n = 7
  · subst h7
    have hr := Lib.hid (prB_yes pr7)
    go_enter Try.func70, Try.ntmps70
    go_wp2
    go_ret
    exact ⟨by rw [hr.out]; rfl, rfl⟩
  by_cases h61 : n = 61
  · subst h61
    have hr := Lib.hid (prB_yes pr61)
    go_enter Try.func70, Try.ntmps70
    go_wp2
    go_ret
    exact ⟨by rw [hr.out]; rfl, rfl⟩
  have e2 : ((n : Int) == 2) = false := by simp; omega
  have e7 : ((n : Int) == 7) = false := by simp; omega
  have e61 : ((n : Int) == 61) = false := by simp; omega
  by_cases hlt : n < 3
  · have hr := Lib.hid (prB_no (n := n) fun hp => by have := hp.1; omega)
    have d1 : decide ((n : Int) > 2) = false := decide_eq_false (by omega)
    go_enter Try.func70, Try.ntmps70
    go_wp2
    go_ret
    exact ⟨by rw [hr.out]; rfl, rfl⟩
  have d1 : decide ((n : Int) > 2) = true := decide_eq_true (by omega)
  by_cases hodd : n % 2 = 1
  · have d2 : ((n : Int) % 2 == 1) = true := by simp; omega
    by_cases hm7 : n % 7 = 0
    · have hr := Lib.hid ((pr_of_mod pr7 hm7).trans (show (n == 7) = false by simpa using h7))
      have d3 : decide ((n : Int) % 7 > 0) = false := decide_eq_false (by omega)
      go_enter Try.func70, Try.ntmps70
      go_wp2
      go_ret
      exact ⟨by rw [hr.out]; rfl, rfl⟩
    have d3 : decide ((n : Int) % 7 > 0) = true := decide_eq_true (by omega)
    by_cases hm61 : n % 61 = 0
    · have hr := Lib.hid ((pr_of_mod pr61 hm61).trans (show (n == 61) = false by simpa using h61))
      have d4 : decide ((n : Int) % 61 > 0) = false := decide_eq_false (by omega)
      go_enter Try.func70, Try.ntmps70
      go_wp2
      go_ret
      exact ⟨by rw [hr.out]; rfl, rfl⟩
    have d4 : decide ((n : Int) % 61 > 0) = true := decide_eq_true (by omega)
    have H2 := Lib.hid (rstrong_any 2 n w (by omega) (by omega) hn hodd)
    have H7 := Lib.hid (rstrong_any 7 n w (by omega) (by omega) hn hodd)
    have H61 := Lib.hid (rstrong_any 61 n w (by omega) (by omega) hn hodd)
    cases s2 : spB 2 n
    · have hr := Lib.hid (pr_of_sp (by omega) (by omega) (by omega) pr2 s2)
      rw [s2] at H2
      clear H7 H61 s2
      go_enter Try.func70, Try.ntmps70
      go_wp2_with fail
      refine H2.out.mono ?_
      rintro r w1 ⟨rfl, rfl⟩
      go_wp2
      go_ret
      exact ⟨by rw [hr.out]; rfl, rfl⟩
    cases s7 : spB 7 n
    · have hr := Lib.hid (pr_of_sp (by omega) (by omega) hm7 pr7 s7)
      rw [s2] at H2
      rw [s7] at H7
      clear H61 s2 s7
      go_enter Try.func70, Try.ntmps70
      go_wp2_with fail
      refine H2.out.mono ?_
      rintro r w1 ⟨rfl, rfl⟩
      go_wp2_with fail
      refine H7.out.mono ?_
      rintro r w1 ⟨rfl, rfl⟩
      go_wp2
      go_ret
      exact ⟨by rw [hr.out]; rfl, rfl⟩
    have hr : prB n = spB 61 n := by
      cases s61 : spB 61 n
      · exact pr_of_sp (by omega) (by omega) hm61 pr61 s61
      · exact pr_of_all (by omega) hodd hn hm7 hm61 s2 s7 s61
    have HR := Lib.hid hr
    rw [s2] at H2
    rw [s7] at H7
    clear s2 s7 hr
    go_enter Try.func70, Try.ntmps70
    go_wp2_with fail
    refine H2.out.mono ?_
    rintro r w1 ⟨rfl, rfl⟩
    go_wp2_with fail
    refine H7.out.mono ?_
    rintro r w1 ⟨rfl, rfl⟩
    go_wp2_with fail
    refine H61.out.mono ?_
    rintro r w1 ⟨rfl, rfl⟩
    go_wp2
    go_ret
    exact ⟨by rw [HR.out]; rfl, rfl⟩
  · have d2 : ((n : Int) % 2 == 1) = false := by simp; omega
    have hr := Lib.hid ((pr_of_mod pr2 (show n % 2 = 0 by omega)).trans (show (n == 2) = false by simpa using h2))
    go_enter Try.func70, Try.ntmps70
    go_wp2
    go_ret
    exact ⟨by rw [hr.out]; rfl, rfl⟩
end Go.Proofs.Ytmidpholmgmdpaa

namespace Go.Proofs.Ytmidpholmgmdpaa
open Go.RowKit

def fewP : Nat → Nat := fun j => [2, 3, 5, 7, 11, 13, 61].getD j 0
def basP : Nat → Nat := fun j => [2, 7, 61].getD j 0

theorem pr_few {p : Nat} (h : p ∈ [2, 3, 5, 7, 11, 13, 61]) : Mr.Pr p := by
  simp at h
  rcases h with rfl | rfl | rfl | rfl | rfl | rfl | rfl <;> exact pr_lit (by omega) (by decide)

theorem fewP_bd {k : Nat} (h : k < 7) : 2 ≤ fewP k ∧ fewP k ≤ 61 := by
  rcases (show k = 0 ∨ k = 1 ∨ k = 2 ∨ k = 3 ∨ k = 4 ∨ k = 5 ∨ k = 6 by omega) with rfl | rfl | rfl | rfl | rfl | rfl | rfl <;> decide
theorem fewP_pr {k : Nat} (h : k < 7) : Mr.Pr (fewP k) := pr_few (by
  rcases (show k = 0 ∨ k = 1 ∨ k = 2 ∨ k = 3 ∨ k = 4 ∨ k = 5 ∨ k = 6 by omega) with rfl | rfl | rfl | rfl | rfl | rfl | rfl <;> decide)
theorem basP_pr {k : Nat} (h : k < 3) : Mr.Pr (basP k) := pr_few (by
  rcases (show k = 0 ∨ k = 1 ∨ k = 2 by omega) with rfl | rfl | rfl <;> decide)
theorem basP_bd {k : Nat} (h : k < 3) : 2 ≤ basP k ∧ basP k ≤ 61 := by
  rcases (show k = 0 ∨ k = 1 ∨ k = 2 by omega) with rfl | rfl | rfl <;> decide
set_option maxRecDepth 100000 in
theorem idx7 {k : Nat} (h : k < 7) : ∀ w, (Instr.index 91 (.agg #[.int .u32 2, .int .u32 3, .int .u32 5, .int .u32 7, .int .u32 11, .int .u32 13, .int .u32 61]) (.int .i64 (k : Int))).run Try.prog w = .ok (.int .u32 (fewP k : Int)) w := by
  rcases (show k = 0 ∨ k = 1 ∨ k = 2 ∨ k = 3 ∨ k = 4 ∨ k = 5 ∨ k = 6 by omega) with rfl | rfl | rfl | rfl | rfl | rfl | rfl <;> exact fun _ => by kernel_rfl
set_option maxRecDepth 100000 in
theorem idx3 {k : Nat} (h : k < 3) : ∀ w, (Instr.index 92 (.agg #[.int .u32 2, .int .u32 7, .int .u32 61]) (.int .i64 (k : Int))).run Try.prog w = .ok (.int .u32 (basP k : Int)) w := by
  rcases (show k = 0 ∨ k = 1 ∨ k = 2 by omega) with rfl | rfl | rfl <;> exact fun _ => by kernel_rfl

set_option maxHeartbeats 2000000 in
theorem prime_any (n : Nat) (w : World) (hn : n ≤ 4294967295) : Calls Try.prog 50 #[.int .u32 n] w (RetV w (.bool (prB n))) := by
  by_cases hlt : n < 2
  · have hr := Lib.hid (prB_no (n := n) fun hp => by have := hp.1; omega)
    have d1 : decide ((n : Int) < 2) = true := decide_eq_true (by omega)
    go_enter Try.func50, Try.ntmps50
    go_wp2
    go_ret
    exact ⟨by rw [hr.out]; rfl, Below.refl _ _⟩
  have d1 : decide ((n : Int) < 2) = false := decide_eq_false (by omega)
  go_enter Try.func50, Try.ntmps50
  go_wp2
  go_loopw [10] (fun x v => ∃ k : Nat, x = .int .i64 (k : Int) ∧ k ≤ 7 ∧ (∀ j, j < k → n % fewP j ≠ 0) ∧ v = w) (fun x _ => 7 - (intOf x).toNat)
  case atStart => exact ⟨0, rfl, by omega, fun j hj => absurd hj (Nat.not_lt_zero j), rfl⟩
  case round =>
    obtain ⟨k, rfl, hk, hne, rfl⟩ := hrel
    by_cases hk7 : k < 7
    · have hix := idx7 hk7
      obtain ⟨p, hp⟩ : ∃ p, fewP k = p := ⟨_, rfl⟩
      have hpp := fewP_pr hk7
      obtain ⟨hp2, hp61⟩ := fewP_bd hk7
      rw [hp] at hix hpp hp2 hp61
      by_cases h : n % p = 0
      · have hr := pr_of_mod hpp h
        have hr2 : ((n : Int) == (p : Int)) = prB n := by
          rw [hr]
          by_cases hnp : n = p
          · subst hnp; simp
          · have : ((n : Int) == (p : Int)) = false := by simp; omega
            rw [this]
            simp [hnp]
        have h0 : ((n : Int) % (p : Int) == 0) = true := by simp; omega
        have HR := Lib.hid hr2
        clear hr hr2 hne hpp hp h
        go_wp2
        go_ret
        exact ⟨by rw [← HR.out]; rfl, Below.refl _ _⟩
      · have h0 : ((n : Int) % (p : Int) == 0) = false := by simp; omega
        have HN := Lib.hid (show ∀ j, j < k + 1 → n % fewP j ≠ 0 from fun j hj => by
          rcases Nat.lt_or_ge j k with h1 | h1
          · exact hne j h1
          · obtain rfl : j = k := by omega
            rw [hp]; exact h)
        clear hne hpp hp h
        go_wp2
        go_roundw
        case rel => exact ⟨k + 1, by go_num, by omega, HN.out, trivial⟩
        case measure => simp [intOf]; omega
    · have h2 : n % 2 ≠ 0 := hne 0 (by omega)
      have h7 : n % 7 ≠ 0 := hne 3 (by omega)
      have h61 : n % 61 ≠ 0 := hne 6 (by omega)
      have hn3 : 3 ≤ n := by omega
      have hodd : n % 2 = 1 := by omega
      clear hne
      obtain ⟨w0, hw0⟩ : ∃ w0, w0 = wr := ⟨_, rfl⟩
      subst hw0
      go_wp2
      go_loopw [22] (fun x v => ∃ k : Nat, x = .int .i64 (k : Int) ∧ k ≤ 3 ∧ (∀ j, j < k → spB (basP j) n = true) ∧ Below w0.heap.size w0 v) (fun x _ => 3 - (intOf x).toNat)
      case atStart => exact ⟨0, rfl, by omega, fun j hj => absurd hj (Nat.not_lt_zero j), Below.refl _ _⟩
      case round =>
        obtain ⟨k, rfl, hk, hall, hbel⟩ := hrel
        by_cases hk3 : k < 3
        · have hix := idx3 hk3
          obtain ⟨p, hp⟩ : ∃ p, basP k = p := ⟨_, rfl⟩
          have hpp := basP_pr hk3
          obtain ⟨hp2, hp61⟩ := basP_bd hk3
          have hnp : n % basP k ≠ 0 := by
            rcases (show k = 0 ∨ k = 1 ∨ k = 2 by omega) with rfl | rfl | rfl
            · exact h2
            · exact h7
            · exact h61
          rw [hp] at hix hpp hp2 hp61 hnp
          have HPS := Lib.hid (passes_any p n wr (by omega) hn3 hn hodd)
          cases hs : spB p n
          · have hr := Lib.hid (pr_of_sp (by omega) (by omega) hnp hpp hs)
            rw [hs] at HPS
            clear hs hall hpp hp hnp
            go_wp2_with fail
            refine HPS.out.mono ?_
            rintro r w1 ⟨rfl, hb1⟩
            go_wp2
            go_ret
            exact ⟨by rw [hr.out]; rfl, hbel.trans (hb1.mono hbel.size)⟩
          · rw [hs] at HPS
            have HN := Lib.hid (show ∀ j, j < k + 1 → spB (basP j) n = true from fun j hj => by
              rcases Nat.lt_or_ge j k with h1 | h1
              · exact hall j h1
              · obtain rfl : j = k := by omega
                rw [hp]; exact hs)
            clear hs hall hpp hp hnp
            go_wp2_with fail
            refine HPS.out.mono ?_
            rintro r w1 ⟨rfl, hb1⟩
            go_wp2
            go_roundw
            case rel => exact ⟨k + 1, by go_num, by omega, HN.out, hbel.trans (hb1.mono hbel.size)⟩
            case measure => simp [intOf]; omega
        · obtain rfl : k = 3 := by omega
          have hr := Lib.hid (pr_of_all hn3 hodd hn h7 h61 (hall 0 (by omega)) (hall 1 (by omega)) (hall 2 (by omega)))
          clear hall
          go_wp2
          go_ret
          exact ⟨by rw [hr.out]; rfl, hbel⟩
end Go.Proofs.Ytmidpholmgmdpaa

namespace Go.Proofs.Ytmidpholmgmdpaa

/-- what holds at each round's head: x and y are the rests, u a = x and v a = y modulo m -/
structure EI (m a x y : Nat) (u v : Int) : Prop where
  lt : y < x
  le : x ≤ m
  gcd : Nat.gcd x y = Nat.gcd m a
  hu : ∃ s : Int, u * a = x + s * m
  hv : ∃ s : Int, v * a = y + s * m
  det : (v * x - u * y = m ∧ u ≤ 0 ∧ 0 ≤ v) ∨ (v * x - u * y = -(m : Int) ∧ 0 ≤ u ∧ v ≤ 0)
  small : -(m : Int) ≤ 2 * u ∧ 2 * u ≤ m
  top : -(m : Int) ≤ v ∧ v ≤ m

theorem EI.start {m a : Nat} (ha : a < m) : EI m a m a 0 1 :=
  ⟨ha, Nat.le_refl m, rfl, ⟨-1, by omega⟩, ⟨0, by omega⟩, .inl ⟨by omega, by omega, by omega⟩, by omega, by omega⟩

theorem EI.step {m a x y : Nat} {u v : Int} (h : EI m a x y u v) (hy : 0 < y) : EI m a y (x % y) v (u - (x : Int) / (y : Int) * v) := by
  obtain ⟨h1, h2, h3, ⟨s, hs⟩, ⟨t, ht⟩, h6, h7, h8⟩ := h
  have hq : (x : Int) / (y : Int) * (y : Int) + (x : Int) % (y : Int) = x := by rw [Int.mul_comm]; exact Int.mul_ediv_add_emod _ _
  have hmod : ((x % y : Nat) : Int) = (x : Int) % (y : Int) := Int.natCast_emod x y
  have hlt := Nat.mod_lt x hy
  obtain ⟨q, hqd⟩ : ∃ q : Int, (x : Int) / (y : Int) = q := ⟨_, rfl⟩
  have hq0 : 0 ≤ q := by rw [← hqd]; exact Int.ediv_nonneg (Int.natCast_nonneg _) (Int.natCast_nonneg _)
  rw [hqd] at hq ⊢
  obtain ⟨r, hr⟩ : ∃ r, x % y = r := ⟨_, rfl⟩
  rw [← hmod] at hq
  rw [hr] at hq hlt ⊢
  -- the determinant turns its sign
  have hdet : (u - q * v) * (y : Int) - v * (r : Int) = -(v * x - u * y) := by
    rw [← hq, Int.sub_mul, Int.mul_add, Int.mul_comm v (q * (y : Int)), Int.mul_right_comm q (y : Int) v]
    omega
  have hx2 : (2 : Int) ≤ x := by omega
  have hy1 : (1 : Int) ≤ y := by omega
  have hr0 : (0 : Int) ≤ r := Int.natCast_nonneg r
  refine ⟨hlt, by omega, ?_, ⟨t, ht⟩, ⟨s - q * t, ?_⟩, ?_, ?_, ?_⟩
  · rw [← hr, Nat.gcd_comm y, ← Nat.gcd_rec, Nat.gcd_comm, h3]
  · rw [Int.sub_mul, hs, Int.mul_assoc, ht, Int.mul_add, Int.sub_mul, ← hq, Int.mul_assoc]
    omega
  · rcases h6 with ⟨e, e1, e2⟩ | ⟨e, e1, e2⟩
    · exact .inr ⟨by rw [hdet, e], e2, by have := Int.mul_nonneg hq0 e2; omega⟩
    · refine .inl ⟨by rw [hdet, e]; omega, e2, ?_⟩
      have := Int.mul_nonneg hq0 (show 0 ≤ -v by omega)
      rw [Int.mul_neg] at this
      omega
  · rcases h6 with ⟨e, e1, e2⟩ | ⟨e, e1, e2⟩
    · have a1 := Int.mul_nonneg (show 0 ≤ -u by omega) (show (0 : Int) ≤ y by omega)
      have a2 := Int.mul_nonneg e2 (show (0 : Int) ≤ x - 2 by omega)
      rw [Int.neg_mul] at a1
      rw [Int.mul_sub] at a2
      omega
    · have a1 := Int.mul_nonneg e1 (show (0 : Int) ≤ y by omega)
      have a2 := Int.mul_nonneg (show 0 ≤ -v by omega) (show (0 : Int) ≤ x - 2 by omega)
      rw [Int.mul_sub, Int.neg_mul, Int.neg_mul] at a2
      omega
  · have key : (u - q * v) * (y : Int) - v * (r : Int) = -(v * x - u * y) := hdet
    obtain ⟨z, hz⟩ : ∃ z, u - q * v = z := ⟨_, rfl⟩
    rw [hz] at key ⊢
    rcases h6 with ⟨e, e1, e2⟩ | ⟨e, e1, e2⟩
    · have hz0 : z ≤ 0 := by have := Int.mul_nonneg hq0 e2; omega
      have a1 := Int.mul_nonneg (show 0 ≤ -z by omega) (show (0 : Int) ≤ y - 1 by omega)
      have a2 := Int.mul_nonneg e2 hr0
      rw [Int.mul_sub, Int.neg_mul, Int.neg_mul] at a1
      omega
    · have hz0 : 0 ≤ z := by
        have := Int.mul_nonneg hq0 (show 0 ≤ -v by omega)
        rw [Int.mul_neg] at this
        omega
      have a1 := Int.mul_nonneg hz0 (show (0 : Int) ≤ y - 1 by omega)
      have a2 := Int.mul_nonneg (show 0 ≤ -v by omega) hr0
      rw [Int.mul_sub] at a1
      rw [Int.neg_mul] at a2
      omega

/-- the products that the program computes on the way, and their bounds -/
theorem EI.bounds {m a x y : Nat} {u v : Int} (h : EI m a x y u v) (hy : 0 < y) : 0 ≤ (x : Int) / (y : Int) * (y : Int) ∧ (x : Int) / (y : Int) * (y : Int) ≤ x ∧ -(2 * (m : Int)) ≤ (x : Int) / (y : Int) * v ∧ (x : Int) / (y : Int) * v ≤ 2 * (m : Int) ∧
    (x : Int) - (x : Int) / (y : Int) * (y : Int) = ((x % y : Nat) : Int) := by
  have hs := h.step hy
  have h1 := hs.top
  have h2 := h.small
  have hq : (x : Int) / (y : Int) * (y : Int) + (x : Int) % (y : Int) = x := by rw [Int.mul_comm]; exact Int.mul_ediv_add_emod _ _
  have hmod : ((x % y : Nat) : Int) = (x : Int) % (y : Int) := Int.natCast_emod x y
  have hn : 0 ≤ (x : Int) / (y : Int) * (y : Int) := Int.mul_nonneg (Int.ediv_nonneg (Int.natCast_nonneg _) (Int.natCast_nonneg _)) (Int.natCast_nonneg _)
  refine ⟨hn, by omega, by omega, by omega, by omega⟩

theorem quo_bounds (x y : Nat) : 0 ≤ (x : Int) / (y : Int) ∧ (x : Int) / (y : Int) ≤ x :=
  ⟨Int.ediv_nonneg (Int.natCast_nonneg _) (Int.natCast_nonneg _), Int.ediv_le_self _ (Int.natCast_nonneg _)⟩

/-- at the end: the rest is the greatest common divisor, and u the inverse if that is 1 -/
theorem EI.end_ {m a x : Nat} {u v : Int} (h : EI m a x 0 u v) : x = Nat.gcd m a := by rw [← h.gcd, Nat.gcd_zero_right]
theorem EI.inv {m a : Nat} {u v : Int} (h : EI m a 1 0 u v) (hm : 2 ≤ m) : 0 ≤ (if u < 0 then u + m else u) ∧ (if u < 0 then u + m else u) < m ∧ ((invN a m : Nat) : Int) = (if u < 0 then u + m else u) := by
  have h2 := h.small
  obtain ⟨s, hs⟩ := h.hu
  have hr0 : 0 ≤ (if u < 0 then u + m else u) := by split <;> omega
  have hr1 : (if u < 0 then u + m else u) < m := by split <;> omega
  have hr2 : ∃ t : Int, (if u < 0 then u + m else u) * a = 1 + t * m := by
    split
    · exact ⟨s + a, by rw [Int.add_mul, hs, Int.add_mul, Int.mul_comm (a : Int)]; simp only [Int.natCast_one]; omega⟩
    · exact ⟨s, by rw [hs]; rfl⟩
  obtain ⟨r, hr⟩ := Int.eq_ofNat_of_zero_le hr0
  obtain ⟨t, ht⟩ := hr2
  rw [hr] at hr1 ht ⊢
  refine ⟨Int.natCast_nonneg r, hr1, ?_⟩
  congr 1
  refine invN_eq (by omega) ?_
  have e1 : ((r * a % m : Nat) : Int) = ((1 % m : Nat) : Int) := by
    rw [Int.natCast_emod, Int.natCast_emod, Int.natCast_mul, ht, Int.add_mul_emod_self_right]
    rfl
  exact Int.ofNat_inj.1 e1

theorem invN_spec {a m : Nat} (ha : a < m) (hm : 2 ≤ m) (hg : Nat.gcd m a = 1) : invN a m < m ∧ invN a m * a % m = 1 % m := by
  -- run Euclid's rule
  have run : ∀ k x y (u v : Int), y ≤ k → EI m a x y u v → ∃ x' u' v', EI m a x' 0 u' v' := by
    intro k
    induction k with
    | zero =>
      intro x y u v hy h
      obtain rfl : y = 0 := by omega
      exact ⟨x, u, v, h⟩
    | succ k ih =>
      intro x y u v hy h
      rcases Nat.eq_zero_or_pos y with h0 | h0
      · subst h0
        exact ⟨x, u, v, h⟩
      · exact ih _ _ _ _ (by have := Nat.mod_lt x h0; omega) (h.step h0)
  obtain ⟨x, u, v, h⟩ := run a m a 0 1 (Nat.le_refl a) (EI.start ha)
  obtain rfl : x = 1 := h.end_.trans hg
  have hi := h.inv hm
  have h2 := h.small
  obtain ⟨s, hs⟩ := h.hu
  refine ⟨by omega, ?_⟩
  have e1 : ((invN a m * a % m : Nat) : Int) = ((1 % m : Nat) : Int) := by
    rw [Int.natCast_emod, Int.natCast_emod, Int.natCast_mul, hi.2.2]
    split
    · rw [Int.add_mul, hs, Int.mul_comm (m : Int), Int.add_mul_emod_self_right, Int.add_mul_emod_self_right]
    · rw [hs, Int.add_mul_emod_self_right]
  exact Int.ofNat_inj.1 e1
end Go.Proofs.Ytmidpholmgmdpaa
