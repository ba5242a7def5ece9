/- The strong tests to the bases 2, 7 and 61 are exact below 2^32: plain Lean, no program in sight. -/
namespace Go.Proofs.Ytcnkddoipmaddaa.Mr
/-! ### primes -/
def Pr (p : Nat) : Prop := 2 ≤ p ∧ ∀ d, d ∣ p → d = 1 ∨ d = p

theorem exists_prime_dvd : ∀ n, 2 ≤ n → ∃ p, Pr p ∧ p ∣ n := by
  intro n
  induction n using Nat.strongRecOn with
  | ind n ih =>
    intro h
    by_cases hp : Pr n
    · exact ⟨n, hp, Nat.dvd_refl n⟩
    · have : ∃ d, d ∣ n ∧ d ≠ 1 ∧ d ≠ n := by
        refine Classical.byContradiction fun hc => hp ⟨h, fun d hd => ?_⟩
        refine Classical.byContradiction fun h2 => hc ⟨d, hd, fun h3 => h2 (.inl h3), fun h3 => h2 (.inr h3)⟩
      obtain ⟨d, hd, h1, h2⟩ := this
      have hle := Nat.le_of_dvd (by omega) hd
      have h0 : d ≠ 0 := by
        rintro rfl
        have := Nat.eq_zero_of_zero_dvd hd
        omega
      obtain ⟨p, hp, hpd⟩ := ih d (by omega) (by omega)
      exact ⟨p, hp, Nat.dvd_trans hpd hd⟩
theorem Pr.coprime {p a : Nat} (hp : Pr p) (h : ¬ p ∣ a) : Nat.gcd p a = 1 := by
  rcases hp.2 _ (Nat.gcd_dvd_left p a) with h1 | h1
  · exact h1
  · exact absurd (h1 ▸ Nat.gcd_dvd_right p a) h
theorem Pr.dvd_mul {p a b : Nat} (hp : Pr p) (h : p ∣ a * b) : p ∣ a ∨ p ∣ b := by
  by_cases h1 : p ∣ a
  · exact .inl h1
  · exact .inr (Nat.Coprime.dvd_of_dvd_mul_left (hp.coprime h1) h)
theorem Pr.pos {p : Nat} (hp : Pr p) : 0 < p := by have := hp.1; omega

/-! ### Fermat's little theorem -/
def C : Nat → Nat → Nat
  | _, 0 => 1
  | 0, _ + 1 => 0
  | n + 1, k + 1 => C n k + C n (k + 1)
theorem C_succ (n k : Nat) : (k + 1) * C (n + 1) (k + 1) = (n + 1) * C n k := by
  induction n generalizing k with
  | zero =>
    cases k with
    | zero => rfl
    | succ k => simp [C]
  | succ n ih =>
    cases k with
    | zero =>
      have := ih 0
      simp only [C, Nat.zero_add, Nat.one_mul, Nat.mul_one] at this ⊢
      omega
    | succ k =>
      have h1 := ih k
      have h2 := ih (k + 1)
      rw [C]
      rw [Nat.mul_add, h2]
      have h3 : (k + 1 + 1) * C (n + 1) (k + 1) = (n + 1) * C n k + C (n + 1) (k + 1) := by rw [Nat.add_mul, h1, Nat.one_mul]
      rw [h3]
      have h4 : C (n + 1) (k + 1) = C n k + C n (k + 1) := rfl
      rw [show (n + 1 + 1) * C (n + 1) (k + 1) = (n + 1) * C (n + 1) (k + 1) + C (n + 1) (k + 1) by rw [Nat.add_mul (n + 1) 1, Nat.one_mul]]
      rw [h4, Nat.mul_add]
      omega
theorem C_big : ∀ n k, n < k → C n k = 0
  | 0, k + 1, _ => rfl
  | n + 1, k + 1, h => by rw [C, C_big n k (by omega), C_big n (k + 1) (by omega)]
theorem C_self : ∀ n, C n n = 1
  | 0 => rfl
  | n + 1 => by rw [C, C_self n, C_big n (n + 1) (by omega)]
def bsum (a n : Nat) : Nat → Nat
  | 0 => C n 0
  | k + 1 => bsum a n k + C n (k + 1) * a ^ (k + 1)
theorem bsum_succ (a n : Nat) : ∀ k, bsum a (n + 1) (k + 1) = bsum a n (k + 1) + a * bsum a n k
  | 0 => by simp [bsum, C, Nat.add_mul]; omega
  | k + 1 => by
    rw [bsum, bsum_succ a n k]
    rw [show bsum a n (k + 1 + 1) = bsum a n (k + 1) + C n (k + 1 + 1) * a ^ (k + 1 + 1) from rfl]
    rw [show bsum a n (k + 1) = bsum a n k + C n (k + 1) * a ^ (k + 1) from rfl]
    rw [show C (n + 1) (k + 1 + 1) = C n (k + 1) + C n (k + 1 + 1) from rfl, Nat.add_mul, Nat.mul_add]
    rw [show a * (C n (k + 1) * a ^ (k + 1)) = C n (k + 1) * a ^ (k + 1 + 1) by rw [Nat.pow_succ a (k + 1), Nat.mul_left_comm, Nat.mul_comm a (a ^ (k + 1))]]
    omega
theorem bsum_full (a : Nat) : ∀ n, bsum a n n = (a + 1) ^ n
  | 0 => rfl
  | n + 1 => by
    rw [bsum_succ]
    rw [show bsum a n (n + 1) = bsum a n n + C n (n + 1) * a ^ (n + 1) from rfl, C_big n (n + 1) (by omega), Nat.zero_mul, Nat.add_zero, bsum_full a n, Nat.pow_succ, Nat.mul_add, Nat.mul_one, Nat.mul_comm a]
    omega
theorem bsum_mod {p : Nat} (hp : Pr p) (a : Nat) : ∀ k, k < p → bsum a p k % p = 1 % p
  | 0, _ => by simp [bsum, C]
  | k + 1, h => by
    rw [bsum, Nat.add_mod, bsum_mod hp a k (by omega)]
    have hd : p ∣ C p (k + 1) := by
      obtain ⟨q, rfl⟩ : ∃ q, p = q + 1 := ⟨p - 1, by have := hp.1; omega⟩
      have h1 : (q + 1) ∣ (k + 1) * C (q + 1) (k + 1) := by rw [C_succ]; exact Nat.dvd_mul_right _ _
      rcases hp.dvd_mul h1 with h2 | h2
      · have := Nat.le_of_dvd (by omega) h2; omega
      · exact h2
    rw [Nat.mul_mod, Nat.mod_eq_zero_of_dvd hd]
    simp
theorem flt0 {p : Nat} (hp : Pr p) : ∀ a, a ^ p % p = a % p
  | 0 => by
    have := hp.1
    rw [Nat.zero_pow (by omega)]
  | a + 1 => by
    have hp1 := hp.1
    obtain ⟨q, hq⟩ : ∃ q, p = q + 1 := ⟨p - 1, by omega⟩
    have h1 := bsum_full a p
    rw [← h1]
    have h2 := bsum_mod hp a q (by omega)
    have h3 : bsum a p p = bsum a p q + C p p * a ^ p := by
      conv => lhs; arg 3; rw [hq]
      rw [bsum, ← hq]
    rw [h3, C_self, Nat.one_mul, Nat.add_mod, h2, flt0 hp a, ← Nat.add_mod, Nat.add_comm]
theorem dvd_sub_of_mod {p x y : Nat} (h : x % p = y % p) : p ∣ y - x := Nat.dvd_of_mod_eq_zero (Nat.sub_mod_eq_zero_of_mod_eq h.symm)
theorem mod_of_dvd_sub {p x y : Nat} (hxy : x ≤ y) (h : p ∣ y - x) : x % p = y % p := by
  obtain ⟨c, hc⟩ := h
  rw [show y = x + p * c by omega, Nat.add_mul_mod_self_left]
theorem mul_cancel_le {p a x y : Nat} (h : Nat.gcd p a = 1) (hxy : x ≤ y) (he : a * x % p = a * y % p) : x % p = y % p := by
  have h1 := dvd_sub_of_mod he
  rw [← Nat.mul_sub] at h1
  exact mod_of_dvd_sub hxy (Nat.Coprime.dvd_of_dvd_mul_left h h1)
theorem mul_cancel_mod {p a x y : Nat} (h : Nat.gcd p a = 1) (he : a * x % p = a * y % p) : x % p = y % p := by
  rcases Nat.le_total x y with hxy | hxy
  · exact mul_cancel_le h hxy he
  · exact (mul_cancel_le h hxy he.symm).symm
theorem flt {p a : Nat} (hp : Pr p) (h : ¬ p ∣ a) : a ^ (p - 1) % p = 1 % p := by
  refine mul_cancel_mod (hp.coprime h) ?_
  rw [Nat.mul_one, ← flt0 hp a, Nat.mul_comm, ← Nat.pow_succ, show (p - 1).succ = p by have := hp.1; omega]

/-! ### powers that are 1 -/
def U (p a e : Nat) : Prop := a ^ e % p = 1 % p
theorem U.zero (p a : Nat) : U p a 0 := rfl
theorem U.add {p a e f : Nat} (h : U p a e) (h2 : U p a f) : U p a (e + f) := by
  unfold U at *
  rw [Nat.pow_add, Nat.mul_mod, h, h2, ← Nat.mul_mod]
theorem U.mul {p a e : Nat} (h : U p a e) : ∀ k, U p a (e * k)
  | 0 => U.zero p a
  | k + 1 => by rw [Nat.mul_succ]; exact (U.mul h k).add h
theorem U.of_add {p a e f : Nat} (h : U p a e) (h2 : U p a (e + f)) : U p a f := by
  unfold U at *
  rw [Nat.pow_add, Nat.mul_mod, h, ← Nat.mul_mod, Nat.one_mul] at h2
  exact h2
theorem U.dvd {p a e f : Nat} (h : U p a e) (hd : e ∣ f) : U p a f := by
  obtain ⟨k, rfl⟩ := hd
  exact h.mul k
theorem U.mod {p a e f : Nat} (h : U p a e) (h2 : U p a f) : U p a (f % e) := by
  refine (h.mul (f / e)).of_add ?_
  rw [Nat.div_add_mod]
  exact h2
theorem U.gcd {p a : Nat} : ∀ e f, U p a e → U p a f → U p a (Nat.gcd e f) := by
  intro e f
  induction e, f using Nat.gcd.induction with
  | H0 n => intro _ h; rw [Nat.gcd_zero_left]; exact h
  | H1 m n hm ih =>
    intro h1 h2
    rw [Nat.gcd_rec]
    exact ih (h1.mod h2) h1
theorem U.sub {n p a e : Nat} (h : U n a e) (hd : p ∣ n) : U p a e := by
  unfold U at *
  rw [← Nat.mod_mod_of_dvd (a ^ e) hd, h, Nat.mod_mod_of_dvd 1 hd]
/-- all three -/
def U3 (p e : Nat) : Prop := U p 2 e ∧ U p 7 e ∧ U p 61 e
def Ann (p L : Nat) : Prop := ∀ e, U3 p e → L ∣ e
theorem U3.gcd {p e f : Nat} (h : U3 p e) (h2 : U3 p f) : U3 p (Nat.gcd e f) := ⟨U.gcd e f h.1 h2.1, U.gcd e f h.2.1 h2.2.1, U.gcd e f h.2.2 h2.2.2⟩
theorem U3.dvd {p e f : Nat} (h : U3 p e) (hd : e ∣ f) : U3 p f := ⟨h.1.dvd hd, h.2.1.dvd hd, h.2.2.dvd hd⟩
theorem U3.sub {n p e : Nat} (h : U3 n e) (hd : p ∣ n) : U3 p e := ⟨h.1.sub hd, h.2.1.sub hd, h.2.2.sub hd⟩
theorem U3.of_add {p e f : Nat} (h : U3 p e) (h2 : U3 p (e + f)) : U3 p f := ⟨h.1.of_add h2.1, h.2.1.of_add h2.2.1, h.2.2.of_add h2.2.2⟩
theorem ann_of {p L : Nat} (hL : 0 < L) (h : U3 p L) (hq : ∀ q, Pr q → q ∣ L → ¬ U3 p (L / q)) : Ann p L := by
  intro e he
  have hg := he.gcd h
  obtain ⟨m, hm⟩ := Nat.gcd_dvd_right e L
  rcases Nat.lt_or_ge m 2 with h2 | h2
  · have : m = 1 := by
      rcases Nat.eq_zero_or_pos m with h0 | h0
      · rw [h0, Nat.mul_zero] at hm; omega
      · omega
    rw [this, Nat.mul_one] at hm
    rw [hm]
    exact Nat.gcd_dvd_left e L
  · obtain ⟨q, hq1, hq2⟩ := exists_prime_dvd m h2
    obtain ⟨c, hc⟩ := hq2
    have hLq : L = q * (Nat.gcd e L * c) := by rw [← Nat.mul_left_comm, ← hc]; exact hm
    refine absurd (hg.dvd ?_) (hq q hq1 ⟨_, hLq⟩)
    have e1 : L / q = Nat.gcd e L * c := by
      conv => lhs; rw [hLq]
      exact Nat.mul_div_cancel_left _ hq1.pos
    rw [e1]
    exact Nat.dvd_mul_right _ _
/-- n = p k with p = 1 modulo L: k is 1 modulo L -/
theorem ann_k {p L k : Nat} (hp : 0 < p) (hk : 0 < k) (hL : L ∣ p - 1) (h : Ann p L) (hu : U3 p (p * k - 1)) : L ∣ k - 1 := by
  have h1 := h _ hu
  have e1 : p * k - 1 = (p - 1) * k + (k - 1) := by
    obtain ⟨q, rfl⟩ : ∃ q, p = q + 1 := ⟨p - 1, by omega⟩
    rw [Nat.add_mul]
    simp
    omega
  rw [e1] at h1
  exact (Nat.dvd_add_right (Nat.dvd_trans hL (Nat.dvd_mul_right _ _))).1 h1

/-! ### strong tests -/
def SP (a n : Nat) : Prop := ∃ s d, n - 1 = 2 ^ s * d ∧ d % 2 = 1 ∧ (a ^ d % n = 1 ∨ ∃ r, r < s ∧ a ^ (2 ^ r * d) % n = n - 1)
theorem sq_neg {n x : Nat} (hn : 2 ≤ n) (h : x % n = n - 1) : x * x % n = 1 % n := by
  rw [Nat.mul_mod, h]
  obtain ⟨m, rfl⟩ : ∃ m, n = m + 2 := ⟨n - 2, by omega⟩
  rw [show m + 2 - 1 = m + 1 from rfl, show (m + 1) * (m + 1) = 1 + (m + 2) * m by rw [Nat.add_mul, Nat.mul_add, Nat.add_mul]; omega, Nat.add_mul_mod_self_left]
theorem U.of_neg {a n r d : Nat} (hn : 2 ≤ n) (h : a ^ (2 ^ r * d) % n = n - 1) : ∀ j, r < j → U n a (2 ^ j * d) := by
  intro j hj
  have h1 : U n a (2 ^ (r + 1) * d) := by
    unfold U
    rw [Nat.pow_succ, Nat.mul_assoc, Nat.mul_comm 2 d, ← Nat.mul_assoc, Nat.pow_mul, Nat.pow_two]
    exact sq_neg hn h
  refine h1.dvd ?_
  obtain ⟨c, rfl⟩ := Nat.exists_eq_add_of_lt hj
  exact Nat.mul_dvd_mul_right (Nat.pow_dvd_pow 2 (by omega)) d
theorem SP.U {a n : Nat} (hn : 2 ≤ n) (h : SP a n) : U n a (n - 1) := by
  obtain ⟨s, d, h1, _, h3 | ⟨r, hr, h3⟩⟩ := h
  · have : Mr.U n a d := by unfold Mr.U; rw [h3, Nat.mod_eq_of_lt (by omega)]
    rw [h1]
    exact this.dvd (Nat.dvd_mul_left _ _)
  · rw [h1]
    exact U.of_neg hn h3 s hr
def SP3 (n : Nat) : Prop := SP 2 n ∧ SP 7 n ∧ SP 61 n
theorem SP3.U3 {n : Nat} (hn : 2 ≤ n) (h : SP3 n) : U3 n (n - 1) := ⟨h.1.U hn, h.2.1.U hn, h.2.2.U hn⟩
end Go.Proofs.Ytcnkddoipmaddaa.Mr
