/- The strong tests to the bases 2, 7 and 61 are exact below 2^32: plain Lean, no program in sight. -/
import Derived.Test.YtcnkddoipmaddaaMrE
import Derived.Test.YtcnkddoipmaddaaMrc2
import Derived.Test.YtcnkddoipmaddaaMrk2
import Derived.Test.YtcnkddoipmaddaaMra2
namespace Go.Proofs.Ytcnkddoipmaddaa.Mr
/-! ### the strong tests to the bases 2, 7, 61 are exact below 2^32 -/
theorem dir_all {p : Nat} (h : 2049 ≤ p) (h2 : p < 65536) (ho : p % 2 = 1) : dirP p = true := by
  rcases Nat.lt_or_ge p 2751 with h3 | h3
  · have := dirs_ok _ _ k1 ((p - 2049) / 2) (by omega)
    rw [show 2049 + 2 * ((p - 2049) / 2) = p by omega] at this
    exact this
  rcases Nat.lt_or_ge p 4099 with h4 | h4
  · have := dirs_ok _ _ k2 ((p - 2751) / 2) (by omega)
    rw [show 2751 + 2 * ((p - 2751) / 2) = p by omega] at this
    exact this
  rcases Nat.lt_or_ge p 14003 with h5 | h5
  · have := dirs_ok _ _ k3 ((p - 4099) / 2) (by omega)
    rw [show 4099 + 2 * ((p - 4099) / 2) = p by omega] at this
    exact this
  rcases Nat.lt_or_ge p 65535 with h6 | h6
  · have := dirs_ok _ _ k4 ((p - 14003) / 2) (by omega)
    rw [show 14003 + 2 * ((p - 14003) / 2) = p by omega] at this
    exact this
  · obtain rfl : p = 65535 := by omega
    decide +kernel
theorem a_all {k : Nat} (h : 3 ≤ k) (h2 : k < 65536) (ho : k % 2 = 1) : chkA Zp k = true := by
  rcases Nat.lt_or_ge k 24003 with h3 | h3
  · have := partA_ok a1 ((k - 3) / 2) (by omega)
    rw [show 3 + 2 * ((k - 3) / 2) = k by omega] at this
    exact this
  rcases Nat.lt_or_ge k 40003 with h4 | h4
  · have := partA_ok a2 ((k - 24003) / 2) (by omega)
    rw [show 24003 + 2 * ((k - 24003) / 2) = k by omega] at this
    exact this
  rcases Nat.lt_or_ge k 54003 with h5 | h5
  · have := partA_ok a3 ((k - 40003) / 2) (by omega)
    rw [show 40003 + 2 * ((k - 40003) / 2) = k by omega] at this
    exact this
  · have := partA_ok a4 ((k - 54003) / 2) (by omega)
    rw [show 54003 + 2 * ((k - 54003) / 2) = k by omega] at this
    exact this
theorem root_all {i : Nat} (h : i < 306) : rootAt 128 (spl.drop i) = true := by
  have key : ∀ c j, roots 128 c (spl.drop j) = true → j ≤ i → i < j + c → rootAt 128 (spl.drop i) = true := fun c j hr h1 h2 => by
    have := roots_ok c _ hr (i - j) (by omega)
    rw [List.drop_drop] at this
    rw [show i = j + (i - j) by omega]
    exact this
  rcases Nat.lt_or_ge i 100 with h1 | h1
  · exact key 100 0 c1 (by omega) (by omega)
  rcases Nat.lt_or_ge i 200 with h2 | h2
  · exact key 100 100 c2 (by omega) (by omega)
  rcases Nat.lt_or_ge i 250 with h3 | h3
  · exact key 50 200 c3 (by omega) (by omega)
  rcases Nat.lt_or_ge i 280 with h4 | h4
  · exact key 30 250 c4 (by omega) (by omega)
  · exact key 26 280 c5 (by omega) (by omega)
theorem spl_len : spl.length = 306 := by decide +kernel
theorem mr {n : Nat} (h3 : 3 ≤ n) (hodd : n % 2 = 1) (hle : n ≤ NM) (h7 : n % 7 ≠ 0) (h61 : n % 61 ≠ 0) (hs : SP3 n) : Pr n := by
  refine Classical.byContradiction fun hc => ?_
  have hodd' : ∀ p, p ∣ n → p % 2 = 1 := fun p hd => by
    rcases Nat.mod_two_eq_zero_or_one p with h2 | h2
    · have := Nat.mod_eq_zero_of_dvd (Nat.dvd_trans (Nat.dvd_of_mod_eq_zero h2) hd)
      omega
    · exact h2
  by_cases hex : ∃ p, Pr p ∧ p ∣ n ∧ 2048 < p
  · obtain ⟨p, hp, ⟨k, rfl⟩, hp2⟩ := hex
    have hpo := hodd' p (Nat.dvd_mul_right p k)
    have hko := hodd' k (Nat.dvd_mul_left k p)
    have hk : 1 < k := by
      rcases Nat.lt_or_ge 1 k with h | h
      · exact h
      · obtain rfl : k = 1 := by omega
        rw [Nat.mul_one] at hc
        exact absurd hp hc
    rcases Nat.lt_or_ge p 65536 with h | h
    · exact dirP_ok (dir_all (by omega) h hpo) (hp.coprime fun hd => by have := prime_dvd_Z2 hp hd; omega) hpo hk hko hle hs
    · have hk2 : k < 65536 := by
        rcases Nat.lt_or_ge k 65536 with h4 | h4
        · exact h4
        · have := Nat.mul_le_mul h h4
          unfold NM at hle
          omega
      exact chkA_ok (a_all (by omega) hk2 hko) hp (by omega) hk hko hle hs
  · refine rootAt_ok (T := 128) spl_good (fun i hi => root_all (by rw [spl_len] at hi; exact hi)) hle (by omega) hodd (fun q hq hqn => ?_) hc hs
    have hq2 := hodd' q hqn
    refine spl_mem hq ?_ (by rintro rfl; omega) (by rintro rfl; exact h7 (Nat.mod_eq_zero_of_dvd hqn)) (by rintro rfl; exact h61 (Nat.mod_eq_zero_of_dvd hqn))
    rcases Nat.lt_or_ge q 2048 with h | h
    · exact h
    · have : q ≠ 2048 := by rintro rfl; omega
      exact absurd ⟨q, hq, hqn, by omega⟩ hex
/-- a prime passes the strong test -/
theorem Pr.sqrt {p x : Nat} (hp : Pr p) (h : x * x % p = 1 % p) : x % p = 1 % p ∨ x % p = p - 1 := by
  have hp1 := hp.1
  rcases Nat.eq_zero_or_pos x with h0 | h0
  · subst h0
    rw [Nat.zero_mul, Nat.zero_mod, Nat.mod_eq_of_lt (show 1 < p by omega)] at h
    omega
  have h1 : p ∣ x * x - 1 := dvd_sub_of_mod h.symm
  have e : x * x - 1 = (x + 1) * (x - 1) := by
    obtain ⟨y, rfl⟩ : ∃ y, x = y + 1 := ⟨x - 1, by omega⟩
    rw [Nat.add_sub_cancel, Nat.add_mul, Nat.mul_add, Nat.add_mul, Nat.add_mul]
    omega
  rw [e] at h1
  rcases hp.dvd_mul h1 with h2 | h2
  · right
    obtain ⟨c, hc⟩ := h2
    obtain ⟨d, rfl⟩ : ∃ d, c = d + 1 := ⟨c - 1, by
      rcases Nat.eq_zero_or_pos c with h3 | h3
      · subst h3; omega
      · omega⟩
    rw [Nat.mul_succ] at hc
    rw [show x = (p - 1) + p * d by omega, Nat.add_mul_mod_self_left, Nat.mod_eq_of_lt (by omega)]
  · left
    exact (mod_of_dvd_sub h0 h2).symm
theorem Pr.strong {p a : Nat} (hp : Pr p) (h2 : 2 < p) (h : ¬ p ∣ a) : SP a p := by
  have hsd : ∀ n, 0 < n → ∃ s d, n = 2 ^ s * d ∧ d % 2 = 1 := by
    intro n
    induction n using Nat.strongRecOn with
    | ind n ih =>
      intro h0
      rcases Nat.mod_two_eq_zero_or_one n with h1 | h1
      · obtain ⟨s, d, h3, h4⟩ := ih (n / 2) (by omega) (by omega)
        exact ⟨s + 1, d, by rw [Nat.pow_succ, Nat.mul_right_comm, ← h3]; omega, h4⟩
      · exact ⟨0, n, by rw [Nat.pow_zero, Nat.one_mul], h1⟩
  obtain ⟨s, d, h3, h4⟩ := hsd (p - 1) (by omega)
  refine ⟨s, d, h3, h4, ?_⟩
  have key : ∀ j, j ≤ s → a ^ (2 ^ j * d) % p = 1 % p → a ^ d % p = 1 ∨ ∃ r, r < s ∧ a ^ (2 ^ r * d) % p = p - 1 := by
    intro j
    induction j with
    | zero => intro _ h; rw [Nat.pow_zero, Nat.one_mul, Nat.mod_eq_of_lt (show 1 < p by omega)] at h; exact .inl h
    | succ j ih =>
      intro hj h
      rw [Nat.pow_succ, Nat.mul_right_comm, Nat.pow_mul, Nat.pow_two] at h
      rcases hp.sqrt h with h5 | h5
      · exact ih (by omega) h5
      · exact .inr ⟨j, by omega, h5⟩
  refine key s (Nat.le_refl _) ?_
  rw [← h3]
  exact flt hp h
end Go.Proofs.Ytcnkddoipmaddaa.Mr
