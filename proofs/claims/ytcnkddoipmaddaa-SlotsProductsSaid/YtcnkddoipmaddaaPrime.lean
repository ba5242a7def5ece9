/- Contracts: the tests for primes are exact. -/
import Derived.Test.YtcnkddoipmaddaaStrong
import Derived.Test.YtcnkddoipmaddaaMrZ
namespace Go.Proofs.Ytcnkddoipmaddaa
open Go.RowKit

noncomputable def prB (n : Nat) : Bool := @decide (Mr.Pr n) (Classical.propDecidable _)
theorem prB_true {n : Nat} : prB n = true ↔ Mr.Pr n := by unfold prB; exact @decide_eq_true_iff (Mr.Pr n) (Classical.propDecidable _)
theorem prB_yes {n : Nat} (h : Mr.Pr n) : prB n = true := prB_true.2 h
theorem prB_no {n : Nat} (h : ¬ Mr.Pr n) : prB n = false := by
  cases hb : prB n
  · rfl
  · exact absurd (prB_true.1 hb) h

theorem pr_lit {p : Nat} (h2 : 2 ≤ p) (h : (List.range p).all (fun d => decide (d < 2) || p % d != 0) = true) : Mr.Pr p := by
  refine ⟨h2, fun d hd => ?_⟩
  have hle := Nat.le_of_dvd (by omega) hd
  rcases Nat.lt_or_ge d p with h1 | h1
  · have h3 := List.all_eq_true.1 h d (List.mem_range.2 h1)
    have h4 := Nat.mod_eq_zero_of_dvd hd
    rw [h4] at h3
    simp at h3
    have : d ≠ 0 := by
      rintro rfl
      have := Nat.eq_zero_of_zero_dvd hd
      omega
    omega
  · omega
theorem pr_of_mod {n p : Nat} (hp : Mr.Pr p) (h : n % p = 0) : prB n = (n == p) := by
  by_cases hn : n = p
  · subst hn
    rw [prB_yes hp]
    simp
  · have : ¬ Mr.Pr n := fun hpr => by
      have := hp.1
      rcases hpr.2 p (Nat.dvd_of_mod_eq_zero h) with h1 | h1 <;> omega
    rw [prB_no this]
    simp [hn]
theorem pr_of_sp {n a : Nat} (h2 : 2 < n) (ha : 0 < a) (han : n % a ≠ 0) (hpa : Mr.Pr a) (h : spB a n = false) : prB n = false := by
  refine prB_no fun hp => ?_
  have hs := hp.strong (a := a) h2 fun hd => by
    rcases hpa.2 n hd with h1 | h1
    · omega
    · subst h1; rw [Nat.mod_self] at han; exact han rfl
  rw [spB_yes hs] at h
  cases h
theorem pr_of_all {n : Nat} (h3 : 3 ≤ n) (hodd : n % 2 = 1) (hle : n ≤ 4294967295) (h7 : n % 7 ≠ 0) (h61 : n % 61 ≠ 0) (s2 : spB 2 n = true) (s7 : spB 7 n = true) (s61 : spB 61 n = true) : prB n = true :=
  prB_yes (Mr.mr h3 hodd hle h7 h61 ⟨spB_true.1 s2, spB_true.1 s7, spB_true.1 s61⟩)
theorem pr2 : Mr.Pr 2 := pr_lit (by omega) (by decide)
theorem pr7 : Mr.Pr 7 := pr_lit (by omega) (by decide)
theorem pr61 : Mr.Pr 61 := pr_lit (by omega) (by decide)

set_option maxHeartbeats 1000000 in
theorem rprime_any (n : Nat) (w : World) (hn : n ≤ 4294967295) : Calls Try.prog 66 #[.int .u32 n] w (RetP w (.bool (prB n))) := by
  by_cases h2 : n = 2
  · subst h2
    have hr := Lib.hid (prB_yes pr2)
    go_enter Try.func66, Try.ntmps66
    go_wp2
    go_ret
    exact ⟨by rw [hr.out]; rfl, rfl⟩
  by_cases h7 : n = 7
  · subst h7
    have hr := Lib.hid (prB_yes pr7)
    go_enter Try.func66, Try.ntmps66
    go_wp2
    go_ret
    exact ⟨by rw [hr.out]; rfl, rfl⟩
  by_cases h61 : n = 61
  · subst h61
    have hr := Lib.hid (prB_yes pr61)
    go_enter Try.func66, Try.ntmps66
    go_wp2
    go_ret
    exact ⟨by rw [hr.out]; rfl, rfl⟩
  have e2 : ((n : Int) == 2) = false := by simp; omega
  have e7 : ((n : Int) == 7) = false := by simp; omega
  have e61 : ((n : Int) == 61) = false := by simp; omega
  by_cases hlt : n < 3
  · have hr := Lib.hid (prB_no (n := n) fun hp => by have := hp.1; omega)
    have d1 : decide ((n : Int) > 2) = false := decide_eq_false (by omega)
    go_enter Try.func66, Try.ntmps66
    go_wp2
    go_ret
    exact ⟨by rw [hr.out]; rfl, rfl⟩
  have d1 : decide ((n : Int) > 2) = true := decide_eq_true (by omega)
  by_cases hodd : n % 2 = 1
  · have d2 : ((n : Int) % 2 == 1) = true := by simp; omega
    by_cases hm7 : n % 7 = 0
    · have hr := Lib.hid ((pr_of_mod pr7 hm7).trans (show (n == 7) = false by simpa using h7))
      have d3 : decide ((n : Int) % 7 > 0) = false := decide_eq_false (by omega)
      go_enter Try.func66, Try.ntmps66
      go_wp2
      go_ret
      exact ⟨by rw [hr.out]; rfl, rfl⟩
    have d3 : decide ((n : Int) % 7 > 0) = true := decide_eq_true (by omega)
    by_cases hm61 : n % 61 = 0
    · have hr := Lib.hid ((pr_of_mod pr61 hm61).trans (show (n == 61) = false by simpa using h61))
      have d4 : decide ((n : Int) % 61 > 0) = false := decide_eq_false (by omega)
      go_enter Try.func66, Try.ntmps66
      go_wp2
      go_ret
      exact ⟨by rw [hr.out]; rfl, rfl⟩
    have d4 : decide ((n : Int) % 61 > 0) = true := decide_eq_true (by omega)
    have H2 := Lib.hid (rstrong_any 2 n w (by omega) (by omega) hn hodd)
    have H7 := Lib.hid (rstrong_any 7 n w (by omega) (by omega) hn hodd)
    have H61 := Lib.hid (rstrong_any 61 n w (by omega) (by omega) hn hodd)
    cases s2 : spB 2 n
    · have hr := Lib.hid (pr_of_sp (by omega) (by omega) (by omega) pr2 s2)
      rw [s2] at H2
      clear H7 H61 s2
      go_enter Try.func66, Try.ntmps66
      go_wp2_with fail
      refine H2.out.mono ?_
      rintro r w1 ⟨rfl, rfl⟩
      go_wp2
      go_ret
      exact ⟨by rw [hr.out]; rfl, rfl⟩
    cases s7 : spB 7 n
    · have hr := Lib.hid (pr_of_sp (by omega) (by omega) hm7 pr7 s7)
      rw [s2] at H2
      rw [s7] at H7
      clear H61 s2 s7
      go_enter Try.func66, Try.ntmps66
      go_wp2_with fail
      refine H2.out.mono ?_
      rintro r w1 ⟨rfl, rfl⟩
      go_wp2_with fail
      refine H7.out.mono ?_
      rintro r w1 ⟨rfl, rfl⟩
      go_wp2
      go_ret
      exact ⟨by rw [hr.out]; rfl, rfl⟩
    have hr : prB n = spB 61 n := by
      cases s61 : spB 61 n
      · exact pr_of_sp (by omega) (by omega) hm61 pr61 s61
      · exact pr_of_all (by omega) hodd hn hm7 hm61 s2 s7 s61
    have HR := Lib.hid hr
    rw [s2] at H2
    rw [s7] at H7
    clear s2 s7 hr
    go_enter Try.func66, Try.ntmps66
    go_wp2_with fail
    refine H2.out.mono ?_
    rintro r w1 ⟨rfl, rfl⟩
    go_wp2_with fail
    refine H7.out.mono ?_
    rintro r w1 ⟨rfl, rfl⟩
    go_wp2_with fail
    refine H61.out.mono ?_
    rintro r w1 ⟨rfl, rfl⟩
    go_wp2
    go_ret
    exact ⟨by rw [HR.out]; rfl, rfl⟩
  · have d2 : ((n : Int) % 2 == 1) = false := by simp; omega
    have hr := Lib.hid ((pr_of_mod pr2 (show n % 2 = 0 by omega)).trans (show (n == 2) = false by simpa using h2))
    go_enter Try.func66, Try.ntmps66
    go_wp2
    go_ret
    exact ⟨by rw [hr.out]; rfl, rfl⟩
end Go.Proofs.Ytcnkddoipmaddaa
