/- The strong tests to the bases 2, 7 and 61 are exact below 2^32: plain Lean, no program in sight. -/
/- Plain: orders of residues modulo a prime: x^m = 1 has at most m roots, there is an element of each order that divides p - 1, and the powers of one are all. No program in sight. -/
namespace Go.Proofs.Ytmidpholmgmdpaa.Mr
/-! ### primes -/
def Pr (p : Nat) : Prop := 2 ≤ p ∧ ∀ d, d ∣ p → d = 1 ∨ d = p

theorem exists_prime_dvd : ∀ n, 2 ≤ n → ∃ p, Pr p ∧ p ∣ n := by
  intro n
  induction n using Nat.strongRecOn with
  | ind n ih =>
    intro h
    by_cases hp : Pr n
    · exact ⟨n, hp, Nat.dvd_refl n⟩
    · have : ∃ d, d ∣ n ∧ d ≠ 1 ∧ d ≠ n := by
        refine Classical.byContradiction fun hc => hp ⟨h, fun d hd => ?_⟩
        refine Classical.byContradiction fun h2 => hc ⟨d, hd, fun h3 => h2 (.inl h3), fun h3 => h2 (.inr h3)⟩
      obtain ⟨d, hd, h1, h2⟩ := this
      have hle := Nat.le_of_dvd (by omega) hd
      have h0 : d ≠ 0 := by
        rintro rfl
        have := Nat.eq_zero_of_zero_dvd hd
        omega
      obtain ⟨p, hp, hpd⟩ := ih d (by omega) (by omega)
      exact ⟨p, hp, Nat.dvd_trans hpd hd⟩
theorem Pr.coprime {p a : Nat} (hp : Pr p) (h : ¬ p ∣ a) : Nat.gcd p a = 1 := by
  rcases hp.2 _ (Nat.gcd_dvd_left p a) with h1 | h1
  · exact h1
  · exact absurd (h1 ▸ Nat.gcd_dvd_right p a) h
theorem Pr.dvd_mul {p a b : Nat} (hp : Pr p) (h : p ∣ a * b) : p ∣ a ∨ p ∣ b := by
  by_cases h1 : p ∣ a
  · exact .inl h1
  · exact .inr (Nat.Coprime.dvd_of_dvd_mul_left (hp.coprime h1) h)
theorem Pr.pos {p : Nat} (hp : Pr p) : 0 < p := by have := hp.1; omega

/-! ### Fermat's little theorem -/
def C : Nat → Nat → Nat
  | _, 0 => 1
  | 0, _ + 1 => 0
  | n + 1, k + 1 => C n k + C n (k + 1)
theorem C_succ (n k : Nat) : (k + 1) * C (n + 1) (k + 1) = (n + 1) * C n k := by
  induction n generalizing k with
  | zero =>
    cases k with
    | zero => rfl
    | succ k => simp [C]
  | succ n ih =>
    cases k with
    | zero =>
      have := ih 0
      simp only [C, Nat.zero_add, Nat.one_mul, Nat.mul_one] at this ⊢
      omega
    | succ k =>
      have h1 := ih k
      have h2 := ih (k + 1)
      rw [C]
      rw [Nat.mul_add, h2]
      have h3 : (k + 1 + 1) * C (n + 1) (k + 1) = (n + 1) * C n k + C (n + 1) (k + 1) := by rw [Nat.add_mul, h1, Nat.one_mul]
      rw [h3]
      have h4 : C (n + 1) (k + 1) = C n k + C n (k + 1) := rfl
      rw [show (n + 1 + 1) * C (n + 1) (k + 1) = (n + 1) * C (n + 1) (k + 1) + C (n + 1) (k + 1) by rw [Nat.add_mul (n + 1) 1, Nat.one_mul]]
      rw [h4, Nat.mul_add]
      omega
theorem C_big : ∀ n k, n < k → C n k = 0
  | 0, k + 1, _ => rfl
  | n + 1, k + 1, h => by rw [C, C_big n k (by omega), C_big n (k + 1) (by omega)]
theorem C_self : ∀ n, C n n = 1
  | 0 => rfl
  | n + 1 => by rw [C, C_self n, C_big n (n + 1) (by omega)]
def bsum (a n : Nat) : Nat → Nat
  | 0 => C n 0
  | k + 1 => bsum a n k + C n (k + 1) * a ^ (k + 1)
theorem bsum_succ (a n : Nat) : ∀ k, bsum a (n + 1) (k + 1) = bsum a n (k + 1) + a * bsum a n k
  | 0 => by simp [bsum, C, Nat.add_mul]; omega
  | k + 1 => by
    rw [bsum, bsum_succ a n k]
    rw [show bsum a n (k + 1 + 1) = bsum a n (k + 1) + C n (k + 1 + 1) * a ^ (k + 1 + 1) from rfl]
    rw [show bsum a n (k + 1) = bsum a n k + C n (k + 1) * a ^ (k + 1) from rfl]
    rw [show C (n + 1) (k + 1 + 1) = C n (k + 1) + C n (k + 1 + 1) from rfl, Nat.add_mul, Nat.mul_add]
    rw [show a * (C n (k + 1) * a ^ (k + 1)) = C n (k + 1) * a ^ (k + 1 + 1) by rw [Nat.pow_succ a (k + 1), Nat.mul_left_comm, Nat.mul_comm a (a ^ (k + 1))]]
    omega
theorem bsum_full (a : Nat) : ∀ n, bsum a n n = (a + 1) ^ n
  | 0 => rfl
  | n + 1 => by
    rw [bsum_succ]
    rw [show bsum a n (n + 1) = bsum a n n + C n (n + 1) * a ^ (n + 1) from rfl, C_big n (n + 1) (by omega), Nat.zero_mul, Nat.add_zero, bsum_full a n, Nat.pow_succ, Nat.mul_add, Nat.mul_one, Nat.mul_comm a]
    omega
theorem bsum_mod {p : Nat} (hp : Pr p) (a : Nat) : ∀ k, k < p → bsum a p k % p = 1 % p
  | 0, _ => by simp [bsum, C]
  | k + 1, h => by
    rw [bsum, Nat.add_mod, bsum_mod hp a k (by omega)]
    have hd : p ∣ C p (k + 1) := by
      obtain ⟨q, rfl⟩ : ∃ q, p = q + 1 := ⟨p - 1, by have := hp.1; omega⟩
      have h1 : (q + 1) ∣ (k + 1) * C (q + 1) (k + 1) := by rw [C_succ]; exact Nat.dvd_mul_right _ _
      rcases hp.dvd_mul h1 with h2 | h2
      · have := Nat.le_of_dvd (by omega) h2; omega
      · exact h2
    rw [Nat.mul_mod, Nat.mod_eq_zero_of_dvd hd]
    simp
theorem flt0 {p : Nat} (hp : Pr p) : ∀ a, a ^ p % p = a % p
  | 0 => by
    have := hp.1
    rw [Nat.zero_pow (by omega)]
  | a + 1 => by
    have hp1 := hp.1
    obtain ⟨q, hq⟩ : ∃ q, p = q + 1 := ⟨p - 1, by omega⟩
    have h1 := bsum_full a p
    rw [← h1]
    have h2 := bsum_mod hp a q (by omega)
    have h3 : bsum a p p = bsum a p q + C p p * a ^ p := by
      conv => lhs; arg 3; rw [hq]
      rw [bsum, ← hq]
    rw [h3, C_self, Nat.one_mul, Nat.add_mod, h2, flt0 hp a, ← Nat.add_mod, Nat.add_comm]
theorem dvd_sub_of_mod {p x y : Nat} (h : x % p = y % p) : p ∣ y - x := Nat.dvd_of_mod_eq_zero (Nat.sub_mod_eq_zero_of_mod_eq h.symm)
theorem mod_of_dvd_sub {p x y : Nat} (hxy : x ≤ y) (h : p ∣ y - x) : x % p = y % p := by
  obtain ⟨c, hc⟩ := h
  rw [show y = x + p * c by omega, Nat.add_mul_mod_self_left]
theorem mul_cancel_le {p a x y : Nat} (h : Nat.gcd p a = 1) (hxy : x ≤ y) (he : a * x % p = a * y % p) : x % p = y % p := by
  have h1 := dvd_sub_of_mod he
  rw [← Nat.mul_sub] at h1
  exact mod_of_dvd_sub hxy (Nat.Coprime.dvd_of_dvd_mul_left h h1)
theorem mul_cancel_mod {p a x y : Nat} (h : Nat.gcd p a = 1) (he : a * x % p = a * y % p) : x % p = y % p := by
  rcases Nat.le_total x y with hxy | hxy
  · exact mul_cancel_le h hxy he
  · exact (mul_cancel_le h hxy he.symm).symm
theorem flt {p a : Nat} (hp : Pr p) (h : ¬ p ∣ a) : a ^ (p - 1) % p = 1 % p := by
  refine mul_cancel_mod (hp.coprime h) ?_
  rw [Nat.mul_one, ← flt0 hp a, Nat.mul_comm, ← Nat.pow_succ, show (p - 1).succ = p by have := hp.1; omega]

/-! ### powers that are 1 -/
def U (p a e : Nat) : Prop := a ^ e % p = 1 % p
theorem U.zero (p a : Nat) : U p a 0 := rfl
theorem U.add {p a e f : Nat} (h : U p a e) (h2 : U p a f) : U p a (e + f) := by
  unfold U at *
  rw [Nat.pow_add, Nat.mul_mod, h, h2, ← Nat.mul_mod]
theorem U.mul {p a e : Nat} (h : U p a e) : ∀ k, U p a (e * k)
  | 0 => U.zero p a
  | k + 1 => by rw [Nat.mul_succ]; exact (U.mul h k).add h
theorem U.of_add {p a e f : Nat} (h : U p a e) (h2 : U p a (e + f)) : U p a f := by
  unfold U at *
  rw [Nat.pow_add, Nat.mul_mod, h, ← Nat.mul_mod, Nat.one_mul] at h2
  exact h2
theorem U.dvd {p a e f : Nat} (h : U p a e) (hd : e ∣ f) : U p a f := by
  obtain ⟨k, rfl⟩ := hd
  exact h.mul k
theorem U.mod {p a e f : Nat} (h : U p a e) (h2 : U p a f) : U p a (f % e) := by
  refine (h.mul (f / e)).of_add ?_
  rw [Nat.div_add_mod]
  exact h2
theorem U.gcd {p a : Nat} : ∀ e f, U p a e → U p a f → U p a (Nat.gcd e f) := by
  intro e f
  induction e, f using Nat.gcd.induction with
  | H0 n => intro _ h; rw [Nat.gcd_zero_left]; exact h
  | H1 m n hm ih =>
    intro h1 h2
    rw [Nat.gcd_rec]
    exact ih (h1.mod h2) h1
theorem U.sub {n p a e : Nat} (h : U n a e) (hd : p ∣ n) : U p a e := by
  unfold U at *
  rw [← Nat.mod_mod_of_dvd (a ^ e) hd, h, Nat.mod_mod_of_dvd 1 hd]
/-- all three -/
def U3 (p e : Nat) : Prop := U p 2 e ∧ U p 7 e ∧ U p 61 e
def Ann (p L : Nat) : Prop := ∀ e, U3 p e → L ∣ e
theorem U3.gcd {p e f : Nat} (h : U3 p e) (h2 : U3 p f) : U3 p (Nat.gcd e f) := ⟨U.gcd e f h.1 h2.1, U.gcd e f h.2.1 h2.2.1, U.gcd e f h.2.2 h2.2.2⟩
theorem U3.dvd {p e f : Nat} (h : U3 p e) (hd : e ∣ f) : U3 p f := ⟨h.1.dvd hd, h.2.1.dvd hd, h.2.2.dvd hd⟩
theorem U3.sub {n p e : Nat} (h : U3 n e) (hd : p ∣ n) : U3 p e := ⟨h.1.sub hd, h.2.1.sub hd, h.2.2.sub hd⟩
theorem U3.of_add {p e f : Nat} (h : U3 p e) (h2 : U3 p (e + f)) : U3 p f := ⟨h.1.of_add h2.1, h.2.1.of_add h2.2.1, h.2.2.of_add h2.2.2⟩
theorem ann_of {p L : Nat} (hL : 0 < L) (h : U3 p L) (hq : ∀ q, Pr q → q ∣ L → ¬ U3 p (L / q)) : Ann p L := by
  intro e he
  have hg := he.gcd h
  obtain ⟨m, hm⟩ := Nat.gcd_dvd_right e L
  rcases Nat.lt_or_ge m 2 with h2 | h2
  · have : m = 1 := by
      rcases Nat.eq_zero_or_pos m with h0 | h0
      · rw [h0, Nat.mul_zero] at hm; omega
      · omega
    rw [this, Nat.mul_one] at hm
    rw [hm]
    exact Nat.gcd_dvd_left e L
  · obtain ⟨q, hq1, hq2⟩ := exists_prime_dvd m h2
    obtain ⟨c, hc⟩ := hq2
    have hLq : L = q * (Nat.gcd e L * c) := by rw [← Nat.mul_left_comm, ← hc]; exact hm
    refine absurd (hg.dvd ?_) (hq q hq1 ⟨_, hLq⟩)
    have e1 : L / q = Nat.gcd e L * c := by
      conv => lhs; rw [hLq]
      exact Nat.mul_div_cancel_left _ hq1.pos
    rw [e1]
    exact Nat.dvd_mul_right _ _
/-- n = p k with p = 1 modulo L: k is 1 modulo L -/
theorem ann_k {p L k : Nat} (hp : 0 < p) (hk : 0 < k) (hL : L ∣ p - 1) (h : Ann p L) (hu : U3 p (p * k - 1)) : L ∣ k - 1 := by
  have h1 := h _ hu
  have e1 : p * k - 1 = (p - 1) * k + (k - 1) := by
    obtain ⟨q, rfl⟩ : ∃ q, p = q + 1 := ⟨p - 1, by omega⟩
    rw [Nat.add_mul]
    simp
    omega
  rw [e1] at h1
  exact (Nat.dvd_add_right (Nat.dvd_trans hL (Nat.dvd_mul_right _ _))).1 h1

/-! ### strong tests -/
def SP (a n : Nat) : Prop := ∃ s d, n - 1 = 2 ^ s * d ∧ d % 2 = 1 ∧ (a ^ d % n = 1 ∨ ∃ r, r < s ∧ a ^ (2 ^ r * d) % n = n - 1)
theorem sq_neg {n x : Nat} (hn : 2 ≤ n) (h : x % n = n - 1) : x * x % n = 1 % n := by
  rw [Nat.mul_mod, h]
  obtain ⟨m, rfl⟩ : ∃ m, n = m + 2 := ⟨n - 2, by omega⟩
  rw [show m + 2 - 1 = m + 1 from rfl, show (m + 1) * (m + 1) = 1 + (m + 2) * m by rw [Nat.add_mul, Nat.mul_add, Nat.add_mul]; omega, Nat.add_mul_mod_self_left]
theorem U.of_neg {a n r d : Nat} (hn : 2 ≤ n) (h : a ^ (2 ^ r * d) % n = n - 1) : ∀ j, r < j → U n a (2 ^ j * d) := by
  intro j hj
  have h1 : U n a (2 ^ (r + 1) * d) := by
    unfold U
    rw [Nat.pow_succ, Nat.mul_assoc, Nat.mul_comm 2 d, ← Nat.mul_assoc, Nat.pow_mul, Nat.pow_two]
    exact sq_neg hn h
  refine h1.dvd ?_
  obtain ⟨c, rfl⟩ := Nat.exists_eq_add_of_lt hj
  exact Nat.mul_dvd_mul_right (Nat.pow_dvd_pow 2 (by omega)) d
theorem SP.U {a n : Nat} (hn : 2 ≤ n) (h : SP a n) : U n a (n - 1) := by
  obtain ⟨s, d, h1, _, h3 | ⟨r, hr, h3⟩⟩ := h
  · have : Mr.U n a d := by unfold Mr.U; rw [h3, Nat.mod_eq_of_lt (by omega)]
    rw [h1]
    exact this.dvd (Nat.dvd_mul_left _ _)
  · rw [h1]
    exact U.of_neg hn h3 s hr
def SP3 (n : Nat) : Prop := SP 2 n ∧ SP 7 n ∧ SP 61 n
theorem SP3.U3 {n : Nat} (hn : 2 ≤ n) (h : SP3 n) : U3 n (n - 1) := ⟨h.1.U hn, h.2.1.U hn, h.2.2.U hn⟩
end Go.Proofs.Ytmidpholmgmdpaa.Mr

namespace Go.Proofs.Ytmidpholmgmdpaa
open Mr
set_option linter.unusedVariables false

/-! ### polynomials with integer coefficients, from the constant one on -/
def evL : List Int → Int → Int
  | [], _ => 0
  | c :: t, x => c + x * evL t x
def addL : List Int → List Int → List Int
  | [], m => m
  | a :: l, [] => a :: l
  | a :: l, b :: m => (a + b) :: addL l m
def quoL (r : Int) : List Int → List Int
  | [] => []
  | _ :: t => addL t ((quoL r t).map (r * ·))
theorem ev_add (x : Int) : ∀ l m, evL (addL l m) x = evL l x + evL m x
  | [], m => by rw [addL, evL, Int.zero_add]
  | a :: l, [] => by rw [addL, evL, evL]; omega
  | a :: l, b :: m => by rw [addL, evL, evL, evL, ev_add x l m, Int.mul_add]; omega
theorem ev_map (r x : Int) : ∀ l, evL (l.map (r * ·)) x = r * evL l x
  | [] => by rw [List.map_nil, evL, Int.mul_zero]
  | a :: l => by rw [List.map_cons, evL, evL, ev_map r x l, Int.mul_add, Int.mul_left_comm]
theorem ev_quo (r x : Int) : ∀ l, evL l x - evL l r = (x - r) * evL (quoL r l) x
  | [] => by simp [quoL, evL]
  | c :: t => by
    have ih := ev_quo r x t
    rw [quoL, ev_add, ev_map, Int.mul_add, Int.mul_left_comm (x - r) r, ← ih, evL, evL, Int.mul_sub, Int.sub_mul]
    omega
theorem len_add : ∀ l m, (addL l m).length = max l.length m.length
  | [], m => by rw [addL]; simp
  | a :: l, [] => by rw [addL]; simp
  | a :: l, b :: m => by rw [addL, List.length_cons, len_add l m, List.length_cons, List.length_cons]; omega
theorem len_quo (r : Int) : ∀ l, (quoL r l).length = l.length - 1
  | [] => rfl
  | c :: t => by rw [quoL, len_add, List.length_map, len_quo r t, List.length_cons]; omega
theorem add_snoc (v : Int) : ∀ t m, m.length ≤ t.length → addL (t ++ [v]) m = addL t m ++ [v]
  | [], [], _ => rfl
  | [], b :: m, h => absurd h (by simp)
  | a :: t, [], _ => rfl
  | a :: t, b :: m, h => by
    rw [List.cons_append, addL, addL, add_snoc v t m (by simpa using h), List.cons_append]

theorem dvd_mul_int {p : Nat} (hp : Pr p) {a b : Int} (h : (p : Int) ∣ a * b) : (p : Int) ∣ a ∨ (p : Int) ∣ b := by
  rw [Int.ofNat_dvd_left, Int.natAbs_mul] at h
  rcases hp.dvd_mul h with h1 | h1
  · exact .inl (Int.ofNat_dvd_left.2 h1)
  · exact .inr (Int.ofNat_dvd_left.2 h1)

/-- a polynomial of degree n with leading coefficient 1 has no n + 1 roots -/
theorem monic_roots {p : Nat} (hp : Pr p) : ∀ (n : Nat) (l : List Int), l.length = n → ∀ r : Nat → Nat, (∀ i, i ≤ n → r i < p) → (∀ i j, i < j → j ≤ n → r i ≠ r j) → ¬ ∀ i, i ≤ n → (p : Int) ∣ evL (l ++ [1]) (r i : Int)
  | 0, l, hl, r, _, _ => fun h => by
    obtain rfl : l = [] := List.length_eq_zero_iff.1 hl
    have h1 := h 0 (Nat.le_refl 0)
    rw [List.nil_append, evL, evL, Int.mul_zero, Int.add_zero, Int.ofNat_dvd_left] at h1
    have := Nat.le_of_dvd (by decide) h1
    have := hp.1
    have e : (1 : Int).natAbs = 1 := rfl
    omega
  | n + 1, l, hl, r, hlt, hne => fun h => by
    cases l with
    | nil => cases hl
    | cons c t =>
      have ht : t.length = n := by simpa using hl
      have hm : ((quoL (r 0) (t ++ [1])).map ((r 0 : Int) * ·)).length ≤ t.length := by
        rw [List.length_map, len_quo, List.length_append]
        simp
      have e : quoL (r 0) (c :: t ++ [1]) = addL t ((quoL (r 0) (t ++ [1])).map ((r 0 : Int) * ·)) ++ [1] := by
        rw [List.cons_append, quoL, add_snoc _ _ _ hm]
      have hlen : (addL t ((quoL (r 0) (t ++ [1])).map ((r 0 : Int) * ·))).length = n := by rw [len_add, Nat.max_eq_left hm, ht]
      refine monic_roots hp n _ hlen (fun i => r (i + 1)) (fun i hi => hlt _ (by omega)) (fun i j h1 h2 => hne _ _ (by omega) (by omega)) fun i hi => ?_
      have h1 := Int.dvd_sub (h (i + 1) (by omega)) (h 0 (by omega))
      rw [ev_quo, e] at h1
      rcases dvd_mul_int hp h1 with h2 | h2
      · exfalso
        have a0 := hlt 0 (by omega)
        have a1 := hlt (i + 1) (by omega)
        have a2 := hne 0 (i + 1) (by omega) (by omega)
        rw [Int.ofNat_dvd_left] at h2
        have h3 := Nat.le_of_dvd (by omega) h2
        omega
      · exact h2

theorem ev_pow (x : Int) : ∀ k, evL (List.replicate k 0 ++ [1]) x = x ^ k
  | 0 => by rw [List.replicate_zero, List.nil_append, evL, evL, Int.mul_zero, Int.pow_zero]; rfl
  | k + 1 => by rw [List.replicate_succ, List.cons_append, evL, ev_pow x k, Int.zero_add, Int.pow_succ, Int.mul_comm]

/-- x^m = 1 has at most m roots -/
theorem roots_bound {p m : Nat} (hp : Pr p) (hm : 0 < m) (r : Nat → Nat) (hlt : ∀ i, i ≤ m → r i < p) (hne : ∀ i j, i < j → j ≤ m → r i ≠ r j) (hU : ∀ i, i ≤ m → U p (r i) m) : False := by
  obtain ⟨k, rfl⟩ : ∃ k, m = k + 1 := ⟨m - 1, by omega⟩
  refine monic_roots hp (k + 1) ((-1) :: List.replicate k 0) (by simp) r hlt hne fun i hi => ?_
  rw [List.cons_append, evL, ev_pow]
  have h := hU i hi
  unfold U at h
  have h1 : ((r i ^ (k + 1) : Nat) : Int) % (p : Int) = 1 % (p : Int) := by rw [← Int.natCast_emod, h, Int.natCast_emod]; rfl
  have h2 : (p : Int) ∣ 1 - ((r i ^ (k + 1) : Nat) : Int) := Int.dvd_of_emod_eq_zero ((Int.emod_eq_emod_iff_emod_sub_eq_zero).1 h1.symm)
  have e : -1 + (r i : Int) * (r i : Int) ^ k = -(1 - ((r i ^ (k + 1) : Nat) : Int)) := by
    rw [Int.natCast_pow, Int.pow_succ, Int.mul_comm]
    omega
  rw [e]
  exact Int.dvd_neg.2 h2

/-! ### orders -/
def Ordr (p a m : Nat) : Prop := 0 < m ∧ U p a m ∧ ∀ e, U p a e → m ∣ e
theorem Ordr.uniq {p a m l : Nat} (h : Ordr p a m) (h' : Ordr p a l) : m = l := Nat.dvd_antisymm (h.2.2 l h'.2.1) (h'.2.2 m h.2.1)
theorem U.modl {p a e : Nat} : U p (a % p) e ↔ U p a e := by
  unfold U
  rw [← Nat.pow_mod]
theorem U.pow {p a k e : Nat} : U p (a ^ k) e ↔ U p a (k * e) := by
  unfold U
  rw [← Nat.pow_mul]
theorem Ordr.modl {p a m : Nat} : Ordr p (a % p) m ↔ Ordr p a m := by
  unfold Ordr
  simp only [U.modl]
/-- the test by the primes that divide m -/
theorem ordr_of {p a m : Nat} (hm : 0 < m) (h : U p a m) (hq : ∀ q, Pr q → q ∣ m → ¬ U p a (m / q)) : Ordr p a m := by
  refine ⟨hm, h, fun e he => ?_⟩
  have hg := U.gcd e m he h
  obtain ⟨c, hc⟩ := Nat.gcd_dvd_right e m
  rcases Nat.lt_or_ge c 2 with h2 | h2
  · have h1 : c = 1 := by
      rcases Nat.eq_zero_or_pos c with h0 | h0
      · rw [h0, Nat.mul_zero] at hc; omega
      · omega
    rw [h1, Nat.mul_one] at hc
    rw [hc]
    exact Nat.gcd_dvd_left e m
  · obtain ⟨q, hq1, d, hd⟩ := exists_prime_dvd c h2
    have hmq : m = q * (Nat.gcd e m * d) := by rw [← Nat.mul_left_comm, ← hd]; exact hc
    refine absurd (hg.dvd ?_) (hq q hq1 ⟨_, hmq⟩)
    have e1 : m / q = Nat.gcd e m * d := by
      conv => lhs; rw [hmq]
      exact Nat.mul_div_cancel_left _ hq1.pos
    rw [e1]
    exact Nat.dvd_mul_right _ _
theorem Ordr.test {p a m q : Nat} (h : Ordr p a m) (hq : 2 ≤ q) (hd : q ∣ m) : ¬ U p a (m / q) := fun hu => by
  obtain ⟨c, rfl⟩ := hd
  rw [Nat.mul_div_cancel_left _ (by omega)] at hu
  have h1 := h.2.2 _ hu
  have h2 := h.1
  have h3 : 0 < c := Nat.pos_of_mul_pos_left h2
  have h4 := Nat.le_of_dvd h3 h1
  have h5 : 2 * c ≤ q * c := Nat.mul_le_mul_right c hq
  omega
theorem U.coprime {p a m : Nat} (hp : Pr p) (hm : 0 < m) (h : U p a m) : Nat.gcd p a = 1 := hp.coprime fun hd => by
  have h1 : p ∣ a ^ m := Nat.dvd_trans hd (by have := Nat.pow_dvd_pow a hm; rwa [show Nat.succ 0 = 1 from rfl, Nat.pow_one] at this)
  unfold U at h
  rw [Nat.mod_eq_zero_of_dvd h1, Nat.mod_eq_of_lt hp.1] at h
  cases h
theorem gcd_pow {p a : Nat} (h : Nat.gcd p a = 1) (k : Nat) : Nat.gcd p (a ^ k) = 1 := Nat.Coprime.pow_right k h
/-- the powers below the order differ -/
theorem Ordr.inj {p w m i j : Nat} (hp : Pr p) (h : Ordr p w m) (hij : i < j) (hj : j < m) : w ^ i % p ≠ w ^ j % p := fun he => by
  have hg := gcd_pow (U.coprime hp h.1 h.2.1) i
  have h1 : w ^ i * 1 % p = w ^ i * w ^ (j - i) % p := by rw [Nat.mul_one, ← Nat.pow_add, show i + (j - i) = j from by omega]; exact he
  have h2 : U p w (j - i) := (mul_cancel_mod hg h1).symm
  have h3 := Nat.le_of_dvd (by omega) (h.2.2 _ h2)
  omega
/-- whatever is 1 behind m steps is one of the powers -/
theorem Ordr.all {p w m x : Nat} (hp : Pr p) (h : Ordr p w m) (hx : x < p) (hu : U p x m) : ∃ k, k < m ∧ w ^ k % p = x := by
  rcases Classical.em (∃ k, k < m ∧ w ^ k % p = x) with h1 | h1
  · exact h1
  · exfalso
    refine roots_bound hp h.1 (fun i => if i < m then w ^ i % p else x) (fun i _ => ?_) (fun i j hij hj => ?_) fun i _ => ?_
    · show (if i < m then _ else _) < p
      split
      · exact Nat.mod_lt _ hp.pos
      · exact hx
    · show (if i < m then _ else _) ≠ (if j < m then _ else _)
      rw [if_pos (by omega)]
      split
      · exact h.inj hp hij (by assumption)
      · exact fun he => h1 ⟨i, by omega, he⟩
    · show U p (if i < m then _ else _) m
      split
      · exact U.modl.2 (U.pow.2 (h.2.1.dvd (Nat.dvd_mul_left m i)))
      · exact hu
theorem Ordr.pow {p w m k : Nat} (h : Ordr p w m) (hk : Nat.gcd k m = 1) : Ordr p (w ^ k % p) m := by
  refine Ordr.modl.2 ⟨h.1, U.pow.2 (h.2.1.dvd (Nat.dvd_mul_left m k)), fun e he => ?_⟩
  have h1 := h.2.2 _ (U.pow.1 he)
  exact Nat.Coprime.dvd_of_dvd_mul_left (by rw [Nat.Coprime, Nat.gcd_comm]; exact hk) h1
theorem Ordr.pow_inv {p w m k : Nat} (h : Ordr p w m) (hk : Ordr p (w ^ k % p) m) : Nat.gcd k m = 1 := by
  have h1 := Ordr.modl.1 hk
  obtain ⟨c, hc⟩ := Nat.gcd_dvd_left k m
  obtain ⟨d, hd⟩ := Nat.gcd_dvd_right k m
  have hg0 : 0 < Nat.gcd k m := Nat.gcd_pos_of_pos_right k h.1
  have h2 : U p (w ^ k) d := U.pow.2 (h.2.1.dvd ⟨c, by
    have e : k * d = (Nat.gcd k m * d) * c := by
      conv => lhs; rw [hc]
      rw [Nat.mul_right_comm]
    rw [e, ← hd]⟩)
  have h3 := h1.2.2 _ h2
  have hd0 : 0 < d := Nat.pos_of_ne_zero fun h0 => by rw [h0, Nat.mul_zero] at hd; have := h.1; omega
  have h4 := Nat.le_of_dvd hd0 h3
  rcases Nat.lt_or_ge 1 (Nat.gcd k m) with h5 | h5
  · have h6 : 2 * d ≤ Nat.gcd k m * d := Nat.mul_le_mul_right d h5
    omega
  · omega
theorem Ordr.mul {p a b m l : Nat} (h : Ordr p a m) (h' : Ordr p b l) (hg : Nat.gcd m l = 1) : Ordr p (a * b) (m * l) := by
  have um : ∀ e, U p a e → U p b e → U p (a * b) e := fun e h1 h2 => by
    unfold U at *
    rw [Nat.mul_pow, Nat.mul_mod, h1, h2, ← Nat.mul_mod]
  have ul : ∀ e, U p (a * b) e → U p b e → U p a e := fun e h1 h2 => by
    unfold U at *
    rw [Nat.mul_pow, Nat.mul_mod, h2, ← Nat.mul_mod, Nat.mul_one] at h1
    exact h1
  have ur : ∀ e, U p (a * b) e → U p a e → U p b e := fun e h1 h2 => by
    unfold U at *
    rw [Nat.mul_pow, Nat.mul_mod, h2, ← Nat.mul_mod, Nat.one_mul] at h1
    exact h1
  refine ⟨Nat.mul_pos h.1 h'.1, um _ (h.2.1.dvd (Nat.dvd_mul_right m l)) (h'.2.1.dvd (Nat.dvd_mul_left l m)), fun e he => ?_⟩
  have h1 : m ∣ e * l := h.2.2 _ (ul _ (he.dvd (Nat.dvd_mul_right e l)) (h'.2.1.dvd (Nat.dvd_mul_left l e)))
  have h2 : l ∣ e * m := h'.2.2 _ (ur _ (he.dvd (Nat.dvd_mul_right e m)) (h.2.1.dvd (Nat.dvd_mul_left m e)))
  exact Nat.Coprime.mul_dvd_of_dvd_of_dvd hg (Nat.Coprime.dvd_of_dvd_mul_right hg h1) (Nat.Coprime.dvd_of_dvd_mul_right (by rw [Nat.Coprime, Nat.gcd_comm]; exact hg) h2)

/-- the greatest power of q is taken out -/
theorem exists_out {q : Nat} (hq : 2 ≤ q) : ∀ n, 0 < n → ∃ k c, n = q ^ k * c ∧ ¬ q ∣ c := by
  intro n
  induction n using Nat.strongRecOn with
  | ind n ih =>
    intro hn
    rcases Decidable.em (q ∣ n) with h | h
    · obtain ⟨d, rfl⟩ := h
      have hd : 0 < d := Nat.pos_of_mul_pos_left hn
      have hlt : d < q * d := by have := Nat.mul_le_mul_right d hq; omega
      obtain ⟨k, c, h1, h2⟩ := ih d hlt hd
      exact ⟨k + 1, c, by rw [Nat.pow_succ, Nat.mul_comm (q ^ k), Nat.mul_assoc, ← h1], h2⟩
    · exact ⟨0, n, by rw [Nat.pow_zero, Nat.one_mul], h⟩

theorem exists_ord {p : Nat} (hp : Pr p) : ∀ d, 0 < d → d ∣ p - 1 → ∃ a, Ordr p a d := by
  intro d
  induction d using Nat.strongRecOn with
  | ind d ih =>
    intro hd hdp
    rcases Nat.lt_or_ge d 2 with h1 | h1
    · obtain rfl : d = 1 := by omega
      exact ⟨1, Nat.one_pos, by unfold U; rw [Nat.pow_one], fun e _ => Nat.one_dvd e⟩
    · obtain ⟨q, hq, hqd⟩ := exists_prime_dvd d h1
      obtain ⟨k, c, hdc, hqc⟩ := exists_out hq.1 d hd
      have hk : 0 < k := Nat.pos_of_ne_zero fun h0 => hqc (by rw [h0, Nat.pow_zero, Nat.one_mul] at hdc; rw [← hdc]; exact hqd)
      obtain ⟨j, rfl⟩ : ∃ j, k = j + 1 := ⟨k - 1, by omega⟩
      have hc0 : 0 < c := Nat.pos_of_ne_zero fun h0 => hqc (by rw [h0]; exact Nat.dvd_zero q)
      have hqk : 2 ≤ q ^ (j + 1) := by
        have : q ^ 1 ≤ q ^ (j + 1) := Nat.pow_le_pow_right hq.pos (by omega)
        rw [Nat.pow_one] at this
        have := hq.1
        omega
      have hcd : c < d := by have := Nat.mul_le_mul_right c hqk; omega
      obtain ⟨a, ha⟩ := ih c hcd hc0 (Nat.dvd_trans ⟨q ^ (j + 1), by rw [hdc, Nat.mul_comm]⟩ hdp)
      -- an element whose order is the power of q
      have hp1 : 0 < p - 1 := by have := hp.1; omega
      obtain ⟨N, hN⟩ : ∃ N, p - 1 = N := ⟨_, rfl⟩
      rw [hN] at hdp hp1
      have hqN : q ∣ N := Nat.dvd_trans hqd hdp
      obtain ⟨M, hM⟩ := hqN
      have hM0 : 0 < M := Nat.pos_of_ne_zero fun h0 => by rw [h0, Nat.mul_zero] at hM; omega
      have hMN : 2 * M ≤ N := by rw [hM]; exact Nat.mul_le_mul_right M hq.1
      have hx : ∃ x, 0 < x ∧ x < p ∧ ¬ U p x M := by
        rcases Classical.em (∃ x, 0 < x ∧ x < p ∧ ¬ U p x M) with h | h
        · exact h
        · exfalso
          exact roots_bound hp hM0 (fun i => i + 1) (fun i hi => by omega) (fun i j h1 _ => by omega) fun i hi => by
            rcases Classical.em (U p (i + 1) M) with h2 | h2
            · exact h2
            · exact absurd ⟨i + 1, by omega, by omega, h2⟩ h
      obtain ⟨x, hx0, hxp, hxM⟩ := hx
      have hxN : U p x N := by rw [← hN]; exact flt hp fun h => by have := Nat.le_of_dvd hx0 h; omega
      obtain ⟨L, hL⟩ : q ^ (j + 1) ∣ N := Nat.dvd_trans ⟨c, hdc⟩ hdp
      have hML : M = q ^ j * L := by
        have : q * M = q * (q ^ j * L) := by rw [← hM, hL, Nat.pow_succ, Nat.mul_comm (q ^ j), Nat.mul_assoc]
        exact Nat.eq_of_mul_eq_mul_left hq.pos this
      have hb : Ordr p (x ^ L) (q ^ (j + 1)) := by
        refine ordr_of (by omega) (U.pow.2 (by rw [Nat.mul_comm, ← hL]; exact hxN)) fun r hr hrd hu => ?_
        have hrq : r = q := by
          rcases hq.2 r (by
            have key : ∀ t, r ∣ q ^ t → r ∣ q := fun t => by
              induction t with
              | zero => intro h; rw [Nat.pow_zero] at h; have := Nat.le_of_dvd Nat.one_pos h; have := hr.1; omega
              | succ t ih => intro h; rw [Nat.pow_succ] at h; exact (hr.dvd_mul h).elim ih id
            exact key _ hrd) with h | h
          · have := hr.1; omega
          · exact h
        rw [hrq, Nat.pow_succ, Nat.mul_div_cancel _ hq.pos] at hu
        exact hxM (by rw [hML, Nat.mul_comm]; exact U.pow.1 hu)
      have hg : Nat.gcd c (q ^ (j + 1)) = 1 := gcd_pow (by rw [Nat.gcd_comm]; exact hq.coprime hqc) _
      exact ⟨a * x ^ L, by rw [hdc, Nat.mul_comm (q ^ (j + 1)) c]; exact ha.mul hb hg⟩

/-- the least residue of an order -/
def Least (p m v : Nat) : Prop := Ordr p v m ∧ v < p ∧ ∀ u, u < p → Ordr p u m → v ≤ u
theorem Least.uniq {p m v v' : Nat} (h : Least p m v) (h' : Least p m v') : v = v' := Nat.le_antisymm (h.2.2 v' h'.2.1 h'.1) (h'.2.2 v h.2.1 h.1)
/-- the least one among the powers with an exponent that has no common divisor with m -/
theorem least_of {p w m v : Nat} (hp : Pr p) (hw : Ordr p w m) (hv : Ordr p v m) (hlt : v < p) (h : ∀ k, k < m → Nat.gcd k m = 1 → v ≤ w ^ k % p) : Least p m v := by
  refine ⟨hv, hlt, fun u hu ho => ?_⟩
  obtain ⟨k, hk, rfl⟩ := hw.all hp hu ho.2.1
  exact h k hk (hw.pow_inv ho)
end Go.Proofs.Ytmidpholmgmdpaa
