/- Plain: orders of residues modulo a prime: x^m = 1 has at most m roots, there is an element of each order that divides p - 1, and the powers of one are all. No program in sight. -/
/- Plain: sums of integers and congruence; the transform modulo a prime: it is undone by its inverse, it is computed by halves, and it turns products modulo x^n + 1 into products. No program in sight. -/
import Derived.Test.YtkklacgoeopekaaGcdPlain
import Derived.Test.YtkklacgoeopekaaRet
import Derived.Test.YtkklacgoeopekaaAlg
namespace Go.Proofs.Ytkklacgoeopekaa
open Mr
set_option linter.unusedVariables false

/-! ### polynomials with integer coefficients, from the constant one on -/
def evL : List Int → Int → Int
  | [], _ => 0
  | c :: t, x => c + x * evL t x
def addL : List Int → List Int → List Int
  | [], m => m
  | a :: l, [] => a :: l
  | a :: l, b :: m => (a + b) :: addL l m
def quoL (r : Int) : List Int → List Int
  | [] => []
  | _ :: t => addL t ((quoL r t).map (r * ·))
theorem ev_add (x : Int) : ∀ l m, evL (addL l m) x = evL l x + evL m x
  | [], m => by rw [addL, evL, Int.zero_add]
  | a :: l, [] => by rw [addL, evL, evL]; omega
  | a :: l, b :: m => by rw [addL, evL, evL, evL, ev_add x l m, Int.mul_add]; omega
theorem ev_map (r x : Int) : ∀ l, evL (l.map (r * ·)) x = r * evL l x
  | [] => by rw [List.map_nil, evL, Int.mul_zero]
  | a :: l => by rw [List.map_cons, evL, evL, ev_map r x l, Int.mul_add, Int.mul_left_comm]
theorem ev_quo (r x : Int) : ∀ l, evL l x - evL l r = (x - r) * evL (quoL r l) x
  | [] => by simp [quoL, evL]
  | c :: t => by
    have ih := ev_quo r x t
    rw [quoL, ev_add, ev_map, Int.mul_add, Int.mul_left_comm (x - r) r, ← ih, evL, evL, Int.mul_sub, Int.sub_mul]
    omega
theorem len_add : ∀ l m, (addL l m).length = max l.length m.length
  | [], m => by rw [addL]; simp
  | a :: l, [] => by rw [addL]; simp
  | a :: l, b :: m => by rw [addL, List.length_cons, len_add l m, List.length_cons, List.length_cons]; omega
theorem len_quo (r : Int) : ∀ l, (quoL r l).length = l.length - 1
  | [] => rfl
  | c :: t => by rw [quoL, len_add, List.length_map, len_quo r t, List.length_cons]; omega
theorem add_snoc (v : Int) : ∀ t m, m.length ≤ t.length → addL (t ++ [v]) m = addL t m ++ [v]
  | [], [], _ => rfl
  | [], b :: m, h => absurd h (by simp)
  | a :: t, [], _ => rfl
  | a :: t, b :: m, h => by
    rw [List.cons_append, addL, addL, add_snoc v t m (by simpa using h), List.cons_append]

theorem dvd_mul_int {p : Nat} (hp : Pr p) {a b : Int} (h : (p : Int) ∣ a * b) : (p : Int) ∣ a ∨ (p : Int) ∣ b := by
  rw [Int.ofNat_dvd_left, Int.natAbs_mul] at h
  rcases hp.dvd_mul h with h1 | h1
  · exact .inl (Int.ofNat_dvd_left.2 h1)
  · exact .inr (Int.ofNat_dvd_left.2 h1)

/-- a polynomial of degree n with leading coefficient 1 has no n + 1 roots -/
theorem monic_roots {p : Nat} (hp : Pr p) : ∀ (n : Nat) (l : List Int), l.length = n → ∀ r : Nat → Nat, (∀ i, i ≤ n → r i < p) → (∀ i j, i < j → j ≤ n → r i ≠ r j) → ¬ ∀ i, i ≤ n → (p : Int) ∣ evL (l ++ [1]) (r i : Int)
  | 0, l, hl, r, _, _ => fun h => by
    obtain rfl : l = [] := List.length_eq_zero_iff.1 hl
    have h1 := h 0 (Nat.le_refl 0)
    rw [List.nil_append, evL, evL, Int.mul_zero, Int.add_zero, Int.ofNat_dvd_left] at h1
    have := Nat.le_of_dvd (by decide) h1
    have := hp.1
    have e : (1 : Int).natAbs = 1 := rfl
    omega
  | n + 1, l, hl, r, hlt, hne => fun h => by
    cases l with
    | nil => cases hl
    | cons c t =>
      have ht : t.length = n := by simpa using hl
      have hm : ((quoL (r 0) (t ++ [1])).map ((r 0 : Int) * ·)).length ≤ t.length := by
        rw [List.length_map, len_quo, List.length_append]
        simp
      have e : quoL (r 0) (c :: t ++ [1]) = addL t ((quoL (r 0) (t ++ [1])).map ((r 0 : Int) * ·)) ++ [1] := by
        rw [List.cons_append, quoL, add_snoc _ _ _ hm]
      have hlen : (addL t ((quoL (r 0) (t ++ [1])).map ((r 0 : Int) * ·))).length = n := by rw [len_add, Nat.max_eq_left hm, ht]
      refine monic_roots hp n _ hlen (fun i => r (i + 1)) (fun i hi => hlt _ (by omega)) (fun i j h1 h2 => hne _ _ (by omega) (by omega)) fun i hi => ?_
      have h1 := Int.dvd_sub (h (i + 1) (by omega)) (h 0 (by omega))
      rw [ev_quo, e] at h1
      rcases dvd_mul_int hp h1 with h2 | h2
      · exfalso
        have a0 := hlt 0 (by omega)
        have a1 := hlt (i + 1) (by omega)
        have a2 := hne 0 (i + 1) (by omega) (by omega)
        rw [Int.ofNat_dvd_left] at h2
        have h3 := Nat.le_of_dvd (by omega) h2
        omega
      · exact h2

theorem ev_pow (x : Int) : ∀ k, evL (List.replicate k 0 ++ [1]) x = x ^ k
  | 0 => by rw [List.replicate_zero, List.nil_append, evL, evL, Int.mul_zero, Int.pow_zero]; rfl
  | k + 1 => by rw [List.replicate_succ, List.cons_append, evL, ev_pow x k, Int.zero_add, Int.pow_succ, Int.mul_comm]

/-- x^m = 1 has at most m roots -/
theorem roots_bound {p m : Nat} (hp : Pr p) (hm : 0 < m) (r : Nat → Nat) (hlt : ∀ i, i ≤ m → r i < p) (hne : ∀ i j, i < j → j ≤ m → r i ≠ r j) (hU : ∀ i, i ≤ m → U p (r i) m) : False := by
  obtain ⟨k, rfl⟩ : ∃ k, m = k + 1 := ⟨m - 1, by omega⟩
  refine monic_roots hp (k + 1) ((-1) :: List.replicate k 0) (by simp) r hlt hne fun i hi => ?_
  rw [List.cons_append, evL, ev_pow]
  have h := hU i hi
  unfold U at h
  have h1 : ((r i ^ (k + 1) : Nat) : Int) % (p : Int) = 1 % (p : Int) := by rw [← Int.natCast_emod, h, Int.natCast_emod]; rfl
  have h2 : (p : Int) ∣ 1 - ((r i ^ (k + 1) : Nat) : Int) := Int.dvd_of_emod_eq_zero ((Int.emod_eq_emod_iff_emod_sub_eq_zero).1 h1.symm)
  have e : -1 + (r i : Int) * (r i : Int) ^ k = -(1 - ((r i ^ (k + 1) : Nat) : Int)) := by
    rw [Int.natCast_pow, Int.pow_succ, Int.mul_comm]
    omega
  rw [e]
  exact Int.dvd_neg.2 h2

/-! ### orders -/
def Ordr (p a m : Nat) : Prop := 0 < m ∧ U p a m ∧ ∀ e, U p a e → m ∣ e
theorem Ordr.uniq {p a m l : Nat} (h : Ordr p a m) (h' : Ordr p a l) : m = l := Nat.dvd_antisymm (h.2.2 l h'.2.1) (h'.2.2 m h.2.1)
theorem U.modl {p a e : Nat} : U p (a % p) e ↔ U p a e := by
  unfold U
  rw [← Nat.pow_mod]
theorem U.pow {p a k e : Nat} : U p (a ^ k) e ↔ U p a (k * e) := by
  unfold U
  rw [← Nat.pow_mul]
theorem Ordr.modl {p a m : Nat} : Ordr p (a % p) m ↔ Ordr p a m := by
  unfold Ordr
  simp only [U.modl]
/-- the test by the primes that divide m -/
theorem ordr_of {p a m : Nat} (hm : 0 < m) (h : U p a m) (hq : ∀ q, Pr q → q ∣ m → ¬ U p a (m / q)) : Ordr p a m := by
  refine ⟨hm, h, fun e he => ?_⟩
  have hg := U.gcd e m he h
  obtain ⟨c, hc⟩ := Nat.gcd_dvd_right e m
  rcases Nat.lt_or_ge c 2 with h2 | h2
  · have h1 : c = 1 := by
      rcases Nat.eq_zero_or_pos c with h0 | h0
      · rw [h0, Nat.mul_zero] at hc; omega
      · omega
    rw [h1, Nat.mul_one] at hc
    rw [hc]
    exact Nat.gcd_dvd_left e m
  · obtain ⟨q, hq1, d, hd⟩ := exists_prime_dvd c h2
    have hmq : m = q * (Nat.gcd e m * d) := by rw [← Nat.mul_left_comm, ← hd]; exact hc
    refine absurd (hg.dvd ?_) (hq q hq1 ⟨_, hmq⟩)
    have e1 : m / q = Nat.gcd e m * d := by
      conv => lhs; rw [hmq]
      exact Nat.mul_div_cancel_left _ hq1.pos
    rw [e1]
    exact Nat.dvd_mul_right _ _
theorem Ordr.test {p a m q : Nat} (h : Ordr p a m) (hq : 2 ≤ q) (hd : q ∣ m) : ¬ U p a (m / q) := fun hu => by
  obtain ⟨c, rfl⟩ := hd
  rw [Nat.mul_div_cancel_left _ (by omega)] at hu
  have h1 := h.2.2 _ hu
  have h2 := h.1
  have h3 : 0 < c := Nat.pos_of_mul_pos_left h2
  have h4 := Nat.le_of_dvd h3 h1
  have h5 : 2 * c ≤ q * c := Nat.mul_le_mul_right c hq
  omega
theorem U.coprime {p a m : Nat} (hp : Pr p) (hm : 0 < m) (h : U p a m) : Nat.gcd p a = 1 := hp.coprime fun hd => by
  have h1 : p ∣ a ^ m := Nat.dvd_trans hd (by have := Nat.pow_dvd_pow a hm; rwa [show Nat.succ 0 = 1 from rfl, Nat.pow_one] at this)
  unfold U at h
  rw [Nat.mod_eq_zero_of_dvd h1, Nat.mod_eq_of_lt hp.1] at h
  cases h
theorem gcd_pow {p a : Nat} (h : Nat.gcd p a = 1) (k : Nat) : Nat.gcd p (a ^ k) = 1 := Nat.Coprime.pow_right k h
/-- the powers below the order differ -/
theorem Ordr.inj {p w m i j : Nat} (hp : Pr p) (h : Ordr p w m) (hij : i < j) (hj : j < m) : w ^ i % p ≠ w ^ j % p := fun he => by
  have hg := gcd_pow (U.coprime hp h.1 h.2.1) i
  have h1 : w ^ i * 1 % p = w ^ i * w ^ (j - i) % p := by rw [Nat.mul_one, ← Nat.pow_add, show i + (j - i) = j from by omega]; exact he
  have h2 : U p w (j - i) := (mul_cancel_mod hg h1).symm
  have h3 := Nat.le_of_dvd (by omega) (h.2.2 _ h2)
  omega
/-- whatever is 1 behind m steps is one of the powers -/
theorem Ordr.all {p w m x : Nat} (hp : Pr p) (h : Ordr p w m) (hx : x < p) (hu : U p x m) : ∃ k, k < m ∧ w ^ k % p = x := by
  rcases Classical.em (∃ k, k < m ∧ w ^ k % p = x) with h1 | h1
  · exact h1
  · exfalso
    refine roots_bound hp h.1 (fun i => if i < m then w ^ i % p else x) (fun i _ => ?_) (fun i j hij hj => ?_) fun i _ => ?_
    · show (if i < m then _ else _) < p
      split
      · exact Nat.mod_lt _ hp.pos
      · exact hx
    · show (if i < m then _ else _) ≠ (if j < m then _ else _)
      rw [if_pos (by omega)]
      split
      · exact h.inj hp hij (by assumption)
      · exact fun he => h1 ⟨i, by omega, he⟩
    · show U p (if i < m then _ else _) m
      split
      · exact U.modl.2 (U.pow.2 (h.2.1.dvd (Nat.dvd_mul_left m i)))
      · exact hu
theorem Ordr.pow {p w m k : Nat} (h : Ordr p w m) (hk : Nat.gcd k m = 1) : Ordr p (w ^ k % p) m := by
  refine Ordr.modl.2 ⟨h.1, U.pow.2 (h.2.1.dvd (Nat.dvd_mul_left m k)), fun e he => ?_⟩
  have h1 := h.2.2 _ (U.pow.1 he)
  exact Nat.Coprime.dvd_of_dvd_mul_left (by rw [Nat.Coprime, Nat.gcd_comm]; exact hk) h1
theorem Ordr.pow_inv {p w m k : Nat} (h : Ordr p w m) (hk : Ordr p (w ^ k % p) m) : Nat.gcd k m = 1 := by
  have h1 := Ordr.modl.1 hk
  obtain ⟨c, hc⟩ := Nat.gcd_dvd_left k m
  obtain ⟨d, hd⟩ := Nat.gcd_dvd_right k m
  have hg0 : 0 < Nat.gcd k m := Nat.gcd_pos_of_pos_right k h.1
  have h2 : U p (w ^ k) d := U.pow.2 (h.2.1.dvd ⟨c, by
    have e : k * d = (Nat.gcd k m * d) * c := by
      conv => lhs; rw [hc]
      rw [Nat.mul_right_comm]
    rw [e, ← hd]⟩)
  have h3 := h1.2.2 _ h2
  have hd0 : 0 < d := Nat.pos_of_ne_zero fun h0 => by rw [h0, Nat.mul_zero] at hd; have := h.1; omega
  have h4 := Nat.le_of_dvd hd0 h3
  rcases Nat.lt_or_ge 1 (Nat.gcd k m) with h5 | h5
  · have h6 : 2 * d ≤ Nat.gcd k m * d := Nat.mul_le_mul_right d h5
    omega
  · omega
theorem Ordr.mul {p a b m l : Nat} (h : Ordr p a m) (h' : Ordr p b l) (hg : Nat.gcd m l = 1) : Ordr p (a * b) (m * l) := by
  have um : ∀ e, U p a e → U p b e → U p (a * b) e := fun e h1 h2 => by
    unfold U at *
    rw [Nat.mul_pow, Nat.mul_mod, h1, h2, ← Nat.mul_mod]
  have ul : ∀ e, U p (a * b) e → U p b e → U p a e := fun e h1 h2 => by
    unfold U at *
    rw [Nat.mul_pow, Nat.mul_mod, h2, ← Nat.mul_mod, Nat.mul_one] at h1
    exact h1
  have ur : ∀ e, U p (a * b) e → U p a e → U p b e := fun e h1 h2 => by
    unfold U at *
    rw [Nat.mul_pow, Nat.mul_mod, h2, ← Nat.mul_mod, Nat.one_mul] at h1
    exact h1
  refine ⟨Nat.mul_pos h.1 h'.1, um _ (h.2.1.dvd (Nat.dvd_mul_right m l)) (h'.2.1.dvd (Nat.dvd_mul_left l m)), fun e he => ?_⟩
  have h1 : m ∣ e * l := h.2.2 _ (ul _ (he.dvd (Nat.dvd_mul_right e l)) (h'.2.1.dvd (Nat.dvd_mul_left l e)))
  have h2 : l ∣ e * m := h'.2.2 _ (ur _ (he.dvd (Nat.dvd_mul_right e m)) (h.2.1.dvd (Nat.dvd_mul_left m e)))
  exact Nat.Coprime.mul_dvd_of_dvd_of_dvd hg (Nat.Coprime.dvd_of_dvd_mul_right hg h1) (Nat.Coprime.dvd_of_dvd_mul_right (by rw [Nat.Coprime, Nat.gcd_comm]; exact hg) h2)

/-- the greatest power of q is taken out -/
theorem exists_out {q : Nat} (hq : 2 ≤ q) : ∀ n, 0 < n → ∃ k c, n = q ^ k * c ∧ ¬ q ∣ c := by
  intro n
  induction n using Nat.strongRecOn with
  | ind n ih =>
    intro hn
    rcases Decidable.em (q ∣ n) with h | h
    · obtain ⟨d, rfl⟩ := h
      have hd : 0 < d := Nat.pos_of_mul_pos_left hn
      have hlt : d < q * d := by have := Nat.mul_le_mul_right d hq; omega
      obtain ⟨k, c, h1, h2⟩ := ih d hlt hd
      exact ⟨k + 1, c, by rw [Nat.pow_succ, Nat.mul_comm (q ^ k), Nat.mul_assoc, ← h1], h2⟩
    · exact ⟨0, n, by rw [Nat.pow_zero, Nat.one_mul], h⟩

theorem exists_ord {p : Nat} (hp : Pr p) : ∀ d, 0 < d → d ∣ p - 1 → ∃ a, Ordr p a d := by
  intro d
  induction d using Nat.strongRecOn with
  | ind d ih =>
    intro hd hdp
    rcases Nat.lt_or_ge d 2 with h1 | h1
    · obtain rfl : d = 1 := by omega
      exact ⟨1, Nat.one_pos, by unfold U; rw [Nat.pow_one], fun e _ => Nat.one_dvd e⟩
    · obtain ⟨q, hq, hqd⟩ := exists_prime_dvd d h1
      obtain ⟨k, c, hdc, hqc⟩ := exists_out hq.1 d hd
      have hk : 0 < k := Nat.pos_of_ne_zero fun h0 => hqc (by rw [h0, Nat.pow_zero, Nat.one_mul] at hdc; rw [← hdc]; exact hqd)
      obtain ⟨j, rfl⟩ : ∃ j, k = j + 1 := ⟨k - 1, by omega⟩
      have hc0 : 0 < c := Nat.pos_of_ne_zero fun h0 => hqc (by rw [h0]; exact Nat.dvd_zero q)
      have hqk : 2 ≤ q ^ (j + 1) := by
        have : q ^ 1 ≤ q ^ (j + 1) := Nat.pow_le_pow_right hq.pos (by omega)
        rw [Nat.pow_one] at this
        have := hq.1
        omega
      have hcd : c < d := by have := Nat.mul_le_mul_right c hqk; omega
      obtain ⟨a, ha⟩ := ih c hcd hc0 (Nat.dvd_trans ⟨q ^ (j + 1), by rw [hdc, Nat.mul_comm]⟩ hdp)
      -- an element whose order is the power of q
      have hp1 : 0 < p - 1 := by have := hp.1; omega
      obtain ⟨N, hN⟩ : ∃ N, p - 1 = N := ⟨_, rfl⟩
      rw [hN] at hdp hp1
      have hqN : q ∣ N := Nat.dvd_trans hqd hdp
      obtain ⟨M, hM⟩ := hqN
      have hM0 : 0 < M := Nat.pos_of_ne_zero fun h0 => by rw [h0, Nat.mul_zero] at hM; omega
      have hMN : 2 * M ≤ N := by rw [hM]; exact Nat.mul_le_mul_right M hq.1
      have hx : ∃ x, 0 < x ∧ x < p ∧ ¬ U p x M := by
        rcases Classical.em (∃ x, 0 < x ∧ x < p ∧ ¬ U p x M) with h | h
        · exact h
        · exfalso
          exact roots_bound hp hM0 (fun i => i + 1) (fun i hi => by omega) (fun i j h1 _ => by omega) fun i hi => by
            rcases Classical.em (U p (i + 1) M) with h2 | h2
            · exact h2
            · exact absurd ⟨i + 1, by omega, by omega, h2⟩ h
      obtain ⟨x, hx0, hxp, hxM⟩ := hx
      have hxN : U p x N := by rw [← hN]; exact flt hp fun h => by have := Nat.le_of_dvd hx0 h; omega
      obtain ⟨L, hL⟩ : q ^ (j + 1) ∣ N := Nat.dvd_trans ⟨c, hdc⟩ hdp
      have hML : M = q ^ j * L := by
        have : q * M = q * (q ^ j * L) := by rw [← hM, hL, Nat.pow_succ, Nat.mul_comm (q ^ j), Nat.mul_assoc]
        exact Nat.eq_of_mul_eq_mul_left hq.pos this
      have hb : Ordr p (x ^ L) (q ^ (j + 1)) := by
        refine ordr_of (by omega) (U.pow.2 (by rw [Nat.mul_comm, ← hL]; exact hxN)) fun r hr hrd hu => ?_
        have hrq : r = q := by
          rcases hq.2 r (by
            have key : ∀ t, r ∣ q ^ t → r ∣ q := fun t => by
              induction t with
              | zero => intro h; rw [Nat.pow_zero] at h; have := Nat.le_of_dvd Nat.one_pos h; have := hr.1; omega
              | succ t ih => intro h; rw [Nat.pow_succ] at h; exact (hr.dvd_mul h).elim ih id
            exact key _ hrd) with h | h
          · have := hr.1; omega
          · exact h
        rw [hrq, Nat.pow_succ, Nat.mul_div_cancel _ hq.pos] at hu
        exact hxM (by rw [hML, Nat.mul_comm]; exact U.pow.1 hu)
      have hg : Nat.gcd c (q ^ (j + 1)) = 1 := gcd_pow (by rw [Nat.gcd_comm]; exact hq.coprime hqc) _
      exact ⟨a * x ^ L, by rw [hdc, Nat.mul_comm (q ^ (j + 1)) c]; exact ha.mul hb hg⟩

/-- the least residue of an order -/
def Least (p m v : Nat) : Prop := Ordr p v m ∧ v < p ∧ ∀ u, u < p → Ordr p u m → v ≤ u
theorem Least.uniq {p m v v' : Nat} (h : Least p m v) (h' : Least p m v') : v = v' := Nat.le_antisymm (h.2.2 v' h'.2.1 h'.1) (h'.2.2 v h.2.1 h.1)
/-- the least one among the powers with an exponent that has no common divisor with m -/
theorem least_of {p w m v : Nat} (hp : Pr p) (hw : Ordr p w m) (hv : Ordr p v m) (hlt : v < p) (h : ∀ k, k < m → Nat.gcd k m = 1 → v ≤ w ^ k % p) : Least p m v := by
  refine ⟨hv, hlt, fun u hu ho => ?_⟩
  obtain ⟨k, hk, rfl⟩ := hw.all hp hu ho.2.1
  exact h k hk (hw.pow_inv ho)
end Go.Proofs.Ytkklacgoeopekaa

namespace Go.Proofs.Ytkklacgoeopekaa
set_option linter.unusedVariables false
/-- the sum of f i for i below n -/
def zsum (f : Nat → Int) : Nat → Int
  | 0 => 0
  | n + 1 => zsum f n + f n
theorem zsum_congr {f g : Nat → Int} : ∀ n, (∀ i, i < n → f i = g i) → zsum f n = zsum g n
  | 0, _ => rfl
  | n + 1, h => by unfold zsum; rw [zsum_congr n fun i hi => h i (by omega), h n (by omega)]
theorem zsum_zero {f : Nat → Int} : ∀ n, (∀ i, i < n → f i = 0) → zsum f n = 0
  | 0, _ => rfl
  | n + 1, h => by unfold zsum; rw [zsum_zero n fun i hi => h i (by omega), h n (by omega)]; rfl
theorem zsum_add (f g : Nat → Int) : ∀ n, zsum (fun i => f i + g i) n = zsum f n + zsum g n
  | 0 => rfl
  | n + 1 => by unfold zsum; rw [zsum_add f g n]; omega
theorem zsum_sub (f g : Nat → Int) : ∀ n, zsum (fun i => f i - g i) n = zsum f n - zsum g n
  | 0 => rfl
  | n + 1 => by unfold zsum; rw [zsum_sub f g n]; omega
theorem zsum_mul_left (c : Int) (f : Nat → Int) : ∀ n, zsum (fun i => c * f i) n = c * zsum f n
  | 0 => (Int.mul_zero c).symm
  | n + 1 => by unfold zsum; rw [zsum_mul_left c f n, Int.mul_add]
theorem zsum_mul_right (c : Int) (f : Nat → Int) : ∀ n, zsum (fun i => f i * c) n = zsum f n * c
  | 0 => (Int.zero_mul c).symm
  | n + 1 => by unfold zsum; rw [zsum_mul_right c f n, Int.add_mul]
theorem zsum_const (c : Int) : ∀ n : Nat, zsum (fun _ => c) n = n * c
  | 0 => by unfold zsum; simp
  | n + 1 => by unfold zsum; rw [zsum_const c n]; grind
theorem zsum_swap (f : Nat → Nat → Int) (m : Nat) : ∀ n, zsum (fun i => zsum (f i) m) n = zsum (fun j => zsum (fun i => f i j) n) m
  | 0 => (zsum_zero m fun _ _ => rfl).symm
  | n + 1 => by
    show zsum (fun i => zsum (f i) m) n + zsum (f n) m = zsum (fun j => zsum (fun i => f i j) n + f n j) m
    rw [zsum_swap f m n, ← zsum_add]
theorem zsum_cast (f : Nat → Nat) : ∀ n, ((sumN f n : Nat) : Int) = zsum (fun i => ((f i : Nat) : Int)) n
  | 0 => rfl
  | n + 1 => by unfold sumN zsum; rw [Int.natCast_add, zsum_cast f n]
theorem zsum_one {f : Nat → Int} {j : Nat} : ∀ n, j < n → (∀ i, i < n → i ≠ j → f i = 0) → zsum f n = f j
  | 0, h, _ => absurd h (Nat.not_lt_zero j)
  | n + 1, h, hz => by
    unfold zsum
    by_cases e : j = n
    · subst e
      rw [zsum_zero j fun i hi => hz i (by omega) (by omega), Int.zero_add]
    · rw [zsum_one n (by omega) (fun i hi he => hz i (by omega) he), hz n (by omega) (fun h => e h.symm), Int.add_zero]
theorem zsum_more (f : Nat → Int) (n : Nat) : ∀ k, zsum f (n + k) = zsum f n + zsum (fun i => f (n + i)) k
  | 0 => by unfold zsum; simp
  | k + 1 => by
    show zsum f (n + k) + f (n + k) = zsum f n + (zsum (fun i => f (n + i)) k + f (n + k))
    rw [zsum_more f n k]; omega
/-- the even ones and the odd ones -/
theorem zsum_two (f : Nat → Int) : ∀ h, zsum f (2 * h) = zsum (fun i => f (2 * i)) h + zsum (fun i => f (2 * i + 1)) h
  | 0 => rfl
  | h + 1 => by
    rw [show 2 * (h + 1) = 2 * h + 1 + 1 by omega]
    show zsum f (2 * h) + f (2 * h) + f (2 * h + 1) = zsum (fun i => f (2 * i)) h + f (2 * h) + (zsum (fun i => f (2 * i + 1)) h + f (2 * h + 1))
    rw [zsum_two f h]; omega
/-- the geometric sum -/
theorem zsum_geo (y : Int) : ∀ n, (y - 1) * zsum (fun i => y ^ i) n = y ^ n - 1
  | 0 => by unfold zsum; simp
  | n + 1 => by unfold zsum; rw [Int.mul_add, zsum_geo y n]; grind

/-- congruent modulo q -/
def Cg (q : Nat) (a b : Int) : Prop := (q : Int) ∣ a - b
namespace Cg
variable {q : Nat} {a b c d : Int}
theorem refl (q : Nat) (a : Int) : Cg q a a := by unfold Cg; rw [Int.sub_self]; exact Int.dvd_zero _
theorem of_eq (h : a = b) : Cg q a b := by rw [h]; exact refl q b
theorem symm (h : Cg q a b) : Cg q b a := by
  obtain ⟨k, hk⟩ := h
  exact ⟨-k, by grind⟩
theorem trans (h : Cg q a b) (h2 : Cg q b c) : Cg q a c := by
  obtain ⟨k, hk⟩ := h
  obtain ⟨l, hl⟩ := h2
  exact ⟨k + l, by grind⟩
theorem add (h : Cg q a b) (h2 : Cg q c d) : Cg q (a + c) (b + d) := by
  obtain ⟨k, hk⟩ := h
  obtain ⟨l, hl⟩ := h2
  exact ⟨k + l, by grind⟩
theorem sub (h : Cg q a b) (h2 : Cg q c d) : Cg q (a - c) (b - d) := by
  obtain ⟨k, hk⟩ := h
  obtain ⟨l, hl⟩ := h2
  exact ⟨k - l, by grind⟩
theorem neg (h : Cg q a b) : Cg q (-a) (-b) := by
  obtain ⟨k, hk⟩ := h
  exact ⟨-k, by grind⟩
theorem mul (h : Cg q a b) (h2 : Cg q c d) : Cg q (a * c) (b * d) := by
  obtain ⟨k, hk⟩ := h
  obtain ⟨l, hl⟩ := h2
  exact ⟨k * c + b * l, by grind⟩
theorem pow (h : Cg q a b) : ∀ n : Nat, Cg q (a ^ n) (b ^ n)
  | 0 => by rw [Int.pow_zero, Int.pow_zero]; exact refl q 1
  | n + 1 => by rw [Int.pow_succ, Int.pow_succ]; exact (pow h n).mul h
theorem sum {f g : Nat → Int} : ∀ n, (∀ i, i < n → Cg q (f i) (g i)) → Cg q (zsum f n) (zsum g n)
  | 0, _ => refl q 0
  | n + 1, h => (sum n fun i hi => h i (by omega)).add (h n (by omega))
theorem mod (a : Int) : Cg q (a % (q : Int)) a := ⟨-(a / q), by have := Int.mul_ediv_add_emod a q; grind⟩
theorem modN (a : Nat) : Cg q ((a % q : Nat) : Int) (a : Int) := by rw [Int.natCast_emod]; exact mod _
theorem nat {a b : Nat} : Cg q (a : Int) (b : Int) ↔ a % q = b % q := by
  unfold Cg
  rw [Int.dvd_iff_emod_eq_zero, ← Int.emod_eq_emod_iff_emod_sub_eq_zero, ← Int.natCast_emod, ← Int.natCast_emod]
  exact Int.ofNat_inj
theorem eq_nat {a b : Nat} (h : Cg q (a : Int) (b : Int)) (ha : a < q) (hb : b < q) : a = b := by
  have := nat.1 h
  rwa [Nat.mod_eq_of_lt ha, Nat.mod_eq_of_lt hb] at this
/-- a residue that is congruent to z -/
theorem mod_of {a b : Nat} (h : Cg q (a : Int) (b : Int)) (hb : b < q) : a % q = b := by
  rw [nat.1 h, Nat.mod_eq_of_lt hb]
theorem cancel {x y : Int} (hq : Mr.Pr q) (h : Cg q (x * y) 0) (hx : ¬ Cg q x 0) : Cg q y 0 := by
  unfold Cg at *
  rw [Int.sub_zero] at *
  rcases dvd_mul_int hq h with h1 | h1
  · exact absurd h1 hx
  · exact h1
theorem powN (a : Nat) (k : Nat) : Cg q ((a ^ k % q : Nat) : Int) ((a : Int) ^ k) := by
  have := modN (q := q) (a ^ k)
  rwa [Int.natCast_pow] at this
end Cg
theorem U_cg {q a e : Nat} : Mr.U q a e ↔ Cg q ((a : Int) ^ e) 1 := by
  rw [← Int.natCast_pow]
  exact Cg.nat.symm

/-- psi is a root of order 2 n modulo a prime -/
structure Rt (q n ψ : Nat) : Prop where
  pr : Mr.Pr q
  n0 : 0 < n
  ord : Ordr q ψ (2 * n)
namespace Rt
variable {q n ψ : Nat}
theorem one (h : Rt q n ψ) : Cg q ((ψ : Int) ^ (2 * n)) 1 := U_cg.1 h.ord.2.1
theorem neg (h : Rt q n ψ) : Cg q ((ψ : Int) ^ n) (-1) := by
  obtain ⟨y, hy⟩ : ∃ y : Int, (ψ : Int) ^ n = y := ⟨_, rfl⟩
  have h1 := h.one
  rw [Nat.mul_comm, Int.pow_mul, hy] at h1
  have h2 : ¬ Cg q (y - 1) 0 := fun h2 => by
    have h3 : Cg q ((ψ : Int) ^ n) 1 := by
      have := h2.add (Cg.refl q 1)
      rw [hy]
      simpa using this
    have h4 := h.ord.2.2 n (U_cg.2 h3)
    have := Nat.le_of_dvd h.n0 h4
    have := h.n0
    omega
  have h3 : Cg q ((y - 1) * (y + 1)) 0 := by
    have : (y - 1) * (y + 1) = y ^ 2 - 1 := by grind
    rw [this]
    have := h1.sub (Cg.refl q 1)
    simpa using this
  have h4 := Cg.cancel h.pr h3 h2
  rw [hy]
  have := h4.add (Cg.refl q (-1))
  have e : y + 1 + -1 = y := by omega
  rw [e] at this
  simpa using this
theorem per (h : Rt q n ψ) {e f : Nat} (hef : e % (2 * n) = f % (2 * n)) : Cg q ((ψ : Int) ^ e) ((ψ : Int) ^ f) := by
  have key : ∀ e : Nat, Cg q ((ψ : Int) ^ e) ((ψ : Int) ^ (e % (2 * n))) := fun e => by
    have h1 : (ψ : Int) ^ e = ((ψ : Int) ^ (2 * n)) ^ (e / (2 * n)) * (ψ : Int) ^ (e % (2 * n)) := by
      rw [← Int.pow_mul, ← Int.pow_add, Nat.div_add_mod]
    rw [h1]
    have h2 := (h.one.pow (e / (2 * n))).mul (Cg.refl q ((ψ : Int) ^ (e % (2 * n))))
    rw [Int.one_pow, Int.one_mul] at h2
    exact h2
  have h1 := key e
  rw [hef] at h1
  exact h1.trans (key f).symm
theorem not_one (h : Rt q n ψ) {e : Nat} (he : ¬ 2 * n ∣ e) : ¬ Cg q ((ψ : Int) ^ e - 1) 0 := fun h2 => by
  have h3 : Cg q ((ψ : Int) ^ e) 1 := by
    have := h2.add (Cg.refl q 1)
    simpa using this
  exact he (h.ord.2.2 e (U_cg.2 h3))
theorem dvd_one (h : Rt q n ψ) {e : Nat} (he : 2 * n ∣ e) : Cg q ((ψ : Int) ^ e) 1 := by
  have := h.per (e := e) (f := 0) (by rw [Nat.mod_eq_zero_of_dvd he, Nat.zero_mod])
  rwa [Int.pow_zero] at this
theorem geo (h : Rt q n ψ) {E : Nat} (hE : 2 ∣ E) (he : ¬ 2 * n ∣ E) : Cg q (zsum (fun i => ((ψ : Int) ^ E) ^ i) n) 0 := by
  refine Cg.cancel h.pr ?_ (h.not_one he)
  rw [zsum_geo]
  have h1 : Cg q (((ψ : Int) ^ E) ^ n) 1 := by
    rw [← Int.pow_mul]
    obtain ⟨k, rfl⟩ := hE
    exact h.dvd_one ⟨k, by grind⟩
  have := h1.sub (Cg.refl q 1)
  simpa using this
theorem geo1 (h : Rt q n ψ) {E : Nat} (he : 2 * n ∣ E) : Cg q (zsum (fun i => ((ψ : Int) ^ E) ^ i) n) (n : Int) := by
  have h1 := Cg.sum (q := q) (f := fun i => ((ψ : Int) ^ E) ^ i) (g := fun _ => 1) n fun i _ => by
    have := (h.dvd_one he).pow i
    rwa [Int.one_pow] at this
  rw [zsum_const] at h1
  simpa using h1
theorem orth (h : Rt q n ψ) {e : Nat} (he : ¬ n ∣ e) : Cg q (zsum (fun j => (ψ : Int) ^ (e * (2 * j + 1))) n) 0 := by
  have e1 : zsum (fun j => (ψ : Int) ^ (e * (2 * j + 1))) n = (ψ : Int) ^ e * zsum (fun j => ((ψ : Int) ^ (2 * e)) ^ j) n := by
    rw [← zsum_mul_left]
    refine zsum_congr n fun j _ => ?_
    rw [← Int.pow_mul, ← Int.pow_add]
    congr 1
    grind
  rw [e1]
  have h1 := h.geo (E := 2 * e) ⟨e, rfl⟩ fun hd => he (Nat.dvd_of_mul_dvd_mul_left (by omega) hd)
  have := (Cg.refl q ((ψ : Int) ^ e)).mul h1
  rwa [Int.mul_zero] at this
theorem orth1 (h : Rt q n ψ) {e : Nat} (he : 2 * n ∣ e) : Cg q (zsum (fun j => (ψ : Int) ^ (e * (2 * j + 1))) n) (n : Int) := by
  have h1 := Cg.sum (q := q) (f := fun j => (ψ : Int) ^ (e * (2 * j + 1))) (g := fun _ => 1) n fun j _ => h.dvd_one (Nat.dvd_trans he (Nat.dvd_mul_right e _))
  rw [zsum_const] at h1
  simpa using h1
/-- the odd powers are roots of x^n + 1 -/
theorem place (h : Rt q n ψ) (j : Nat) : Cg q (((ψ : Int) ^ (2 * j + 1)) ^ n) (-1) := by
  have h1 := h.neg.pow (2 * j + 1)
  rw [← Int.pow_mul, Nat.mul_comm, Int.pow_mul]
  have h2 : (-1 : Int) ^ (2 * j + 1) = -1 := by rw [Int.pow_succ, Int.pow_mul]; simp [Int.one_pow]
  rwa [h2] at h1
end Rt

/-- the transform, and what undoes it (s: the inverse of n) -/
def fwd (q n ψ : Nat) (a : Nat → Nat) (j : Nat) : Nat := if j < n then sumN (fun i => a i * ψ ^ (i * (2 * j + 1))) n % q else 0
def ivs (q n ψ s : Nat) (a : Nat → Nat) (i : Nat) : Nat := if i < n then sumN (fun j => a j * ψ ^ ((2 * n - 1) * i * (2 * j + 1))) n % q * s % q else 0
theorem fwd_out {q n ψ j : Nat} {a : Nat → Nat} (h : n ≤ j) : fwd q n ψ a j = 0 := if_neg (by omega)
theorem ivs_out {q n ψ s j : Nat} {a : Nat → Nat} (h : n ≤ j) : ivs q n ψ s a j = 0 := if_neg (by omega)
theorem fwd_lt {q n ψ : Nat} {a : Nat → Nat} (hq : 0 < q) (j : Nat) : fwd q n ψ a j < q := by
  unfold fwd
  split
  · exact Nat.mod_lt _ hq
  · exact hq
theorem ivs_lt {q n ψ s : Nat} {a : Nat → Nat} (hq : 0 < q) (j : Nat) : ivs q n ψ s a j < q := by
  unfold ivs
  split
  · exact Nat.mod_lt _ hq
  · exact hq
theorem fwd_cg {q n ψ j : Nat} {a : Nat → Nat} (h : j < n) : Cg q ((fwd q n ψ a j : Nat) : Int) (zsum (fun i => (a i : Int) * (ψ : Int) ^ (i * (2 * j + 1))) n) := by
  unfold fwd
  rw [if_pos h]
  refine (Cg.modN _).trans (Cg.of_eq ?_)
  rw [zsum_cast]
  exact zsum_congr n fun i _ => by rw [Int.natCast_mul, Int.natCast_pow]
theorem ivs_cg {q n ψ s i : Nat} {a : Nat → Nat} (h : i < n) : Cg q ((ivs q n ψ s a i : Nat) : Int) (zsum (fun j => (a j : Int) * (ψ : Int) ^ ((2 * n - 1) * i * (2 * j + 1))) n * (s : Int)) := by
  unfold ivs
  rw [if_pos h]
  refine (Cg.modN _).trans ?_
  rw [Int.natCast_mul]
  refine Cg.mul ((Cg.modN _).trans (Cg.of_eq ?_)) (Cg.refl q _)
  rw [zsum_cast]
  exact zsum_congr n fun j _ => by rw [Int.natCast_mul, Int.natCast_pow]

theorem mod_2n {n i k : Nat} (hi : i < n) (hk : k < n) : (n ∣ i + (2 * n - 1) * k → i = k) ∧ (i = k → 2 * n ∣ i + (2 * n - 1) * k) := by
  have e : i + (2 * n - 1) * k + k = i + 2 * n * k := by
    rw [show i + (2 * n - 1) * k + k = i + ((2 * n - 1) * k + 1 * k) by omega, ← Nat.add_mul, show 2 * n - 1 + 1 = 2 * n by omega]
  refine ⟨fun ⟨c, hc⟩ => ?_, fun h => ⟨k, by subst h; omega⟩⟩
  rw [hc] at e
  -- n * c + k = i + 2 * n * k
  have h1 : (n * c + k) % n = k := by rw [Nat.mul_add_mod]; exact Nat.mod_eq_of_lt hk
  rw [e, Nat.add_comm, show 2 * n * k = n * (2 * k) by grind, Nat.mul_add_mod, Nat.mod_eq_of_lt hi] at h1
  exact h1

theorem ivs_fwd {q n ψ s : Nat} {a : Nat → Nat} (h : Rt q n ψ) (hs : Cg q ((s : Int) * n) 1) (ha : ∀ j, j < n → a j < q) {k : Nat} (hk : k < n) : ivs q n ψ s (fwd q n ψ a) k = a k := by
  refine Cg.eq_nat ?_ (ivs_lt (by have := h.pr.1; omega) k) (ha k hk)
  refine (ivs_cg hk).trans ?_
  have h1 : Cg q (zsum (fun j => ((fwd q n ψ a j : Nat) : Int) * (ψ : Int) ^ ((2 * n - 1) * k * (2 * j + 1))) n) (zsum (fun j => zsum (fun i => (a i : Int) * (ψ : Int) ^ ((i + (2 * n - 1) * k) * (2 * j + 1))) n) n) := by
    refine Cg.sum n fun j hj => ((fwd_cg hj).mul (Cg.refl q _)).trans (Cg.of_eq ?_)
    rw [← zsum_mul_right]
    refine zsum_congr n fun i _ => ?_
    rw [Int.mul_assoc, ← Int.pow_add]
    congr 2
    grind
  refine ((h1.trans ?_).mul (Cg.refl q (s : Int))).trans (b := (a k : Int) * (n : Int) * (s : Int)) ?_
  · rw [zsum_swap]
    have h2 : Cg q (zsum (fun i => zsum (fun j => (a i : Int) * (ψ : Int) ^ ((i + (2 * n - 1) * k) * (2 * j + 1))) n) n) (zsum (fun i => if i = k then (a k : Int) * (n : Int) else 0) n) := by
      refine Cg.sum n fun i hi => ?_
      rw [zsum_mul_left]
      by_cases e : i = k
      · rw [if_pos e, ← e]
        exact (Cg.refl q _).mul (h.orth1 ((mod_2n hi hk).2 e |> fun x => by rw [← e] at x; exact x))
      · rw [if_neg e]
        have := (Cg.refl q (a i : Int)).mul (h.orth fun hd => e ((mod_2n hi hk).1 hd))
        rwa [Int.mul_zero] at this
    refine h2.trans (Cg.of_eq ?_)
    rw [zsum_one (j := k) n hk fun i _ he => if_neg he, if_pos rfl]
  · have := (Cg.refl q (a k : Int)).mul hs
    rw [Int.mul_one] at this
    refine Cg.trans (Cg.of_eq ?_) this
    grind
theorem fwd_ivs {q n ψ s : Nat} {a : Nat → Nat} (h : Rt q n ψ) (hs : Cg q ((s : Int) * n) 1) (ha : ∀ j, j < n → a j < q) {l : Nat} (hl : l < n) : fwd q n ψ (ivs q n ψ s a) l = a l := by
  refine Cg.eq_nat ?_ (fwd_lt (by have := h.pr.1; omega) l) (ha l hl)
  refine (fwd_cg hl).trans ?_
  have h1 : Cg q (zsum (fun i => ((ivs q n ψ s a i : Nat) : Int) * (ψ : Int) ^ (i * (2 * l + 1))) n) (zsum (fun i => zsum (fun j => (a j : Int) * (s : Int) * ((ψ : Int) ^ (2 * l + 1 + (2 * n - 1) * (2 * j + 1))) ^ i) n) n) := by
    refine Cg.sum n fun i hi => ((ivs_cg hi).mul (Cg.refl q _)).trans (Cg.of_eq ?_)
    rw [Int.mul_assoc, ← zsum_mul_right]
    refine zsum_congr n fun j _ => ?_
    rw [← Int.pow_mul, show (2 * l + 1 + (2 * n - 1) * (2 * j + 1)) * i = (2 * n - 1) * i * (2 * j + 1) + i * (2 * l + 1) by grind, Int.pow_add]
    grind
  refine h1.trans ?_
  rw [zsum_swap]
  have key : ∀ j, j < n → (2 * n ∣ 2 * l + 1 + (2 * n - 1) * (2 * j + 1) ↔ j = l) := fun j hj => by
    have e : 2 * l + 1 + (2 * n - 1) * (2 * j + 1) + 2 * j = 2 * l + 2 * n * (2 * j + 1) := by
      have : (2 * n - 1) * (2 * j + 1) + 1 * (2 * j + 1) = 2 * n * (2 * j + 1) := by rw [← Nat.add_mul, show 2 * n - 1 + 1 = 2 * n by omega]
      omega
    constructor
    · rintro ⟨c, hc⟩
      rw [hc] at e
      have h1 : (2 * n * c + 2 * j) % (2 * n) = 2 * j := by rw [Nat.mul_add_mod]; exact Nat.mod_eq_of_lt (by omega)
      rw [e, Nat.add_comm, Nat.mul_add_mod, Nat.mod_eq_of_lt (by omega)] at h1
      omega
    · intro he
      subst he
      exact ⟨2 * j + 1, by omega⟩
  have h2 : Cg q (zsum (fun j => zsum (fun i => (a j : Int) * (s : Int) * ((ψ : Int) ^ (2 * l + 1 + (2 * n - 1) * (2 * j + 1))) ^ i) n) n) (zsum (fun j => if j = l then (a l : Int) * (s : Int) * (n : Int) else 0) n) := by
    refine Cg.sum n fun j hj => ?_
    rw [zsum_mul_left]
    by_cases e : j = l
    · rw [if_pos e]
      have h3 := h.geo1 ((key j hj).2 e)
      rw [← e]
      rw [← e] at h3
      exact (Cg.refl q _).mul h3
    · rw [if_neg e]
      have h4 : 2 ∣ 2 * l + 1 + (2 * n - 1) * (2 * j + 1) := by
        have := h.n0
        exact ⟨l + j + (2 * n - 1) * j + n - j, by
          have e1 : (2 * n - 1) * (2 * j + 1) = 2 * ((2 * n - 1) * j) + (2 * n - 1) := by grind
          omega⟩
      have := (Cg.refl q ((a j : Int) * (s : Int))).mul (h.geo h4 fun hd => e ((key j hj).1 hd))
      rwa [Int.mul_zero] at this
  refine h2.trans ?_
  rw [zsum_one (j := l) n hl fun j _ he => if_neg he, if_pos rfl]
  have := (Cg.refl q (a l : Int)).mul hs
  rw [Int.mul_one] at this
  exact Cg.trans (Cg.of_eq (by grind)) this
/-- the sums that the recursion computes -/
def cyF (q ω step m : Nat) (a : Nat → Nat) (j : Nat) : Nat := sumN (fun i => a i * ω ^ (2 * step * i * j)) m % q
theorem cyF_lt {q ω step m : Nat} {a : Nat → Nat} (hq : 0 < q) (j : Nat) : cyF q ω step m a j < q := Nat.mod_lt _ hq
theorem cyF_cg {q ω step m j : Nat} {a : Nat → Nat} : Cg q ((cyF q ω step m a j : Nat) : Int) (zsum (fun i => (a i : Int) * (ω : Int) ^ (2 * step * i * j)) m) := by
  unfold cyF
  refine (Cg.modN _).trans (Cg.of_eq ?_)
  rw [zsum_cast]
  exact zsum_congr m fun i _ => by rw [Int.natCast_mul, Int.natCast_pow]
theorem cyF_one {q ω step j : Nat} {a : Nat → Nat} (ha : a 0 < q) : cyF q ω step 1 a j = a 0 := by
  unfold cyF
  show (0 + a 0 * ω ^ (2 * step * 0 * j)) % q = a 0
  simp
  exact Nat.mod_eq_of_lt ha
/-- what is multiplied to the odd half -/
def cyX (q ω step h : Nat) (a : Nat → Nat) (j : Nat) : Nat := cyF q ω (2 * step) h (fun i => a (2 * i + 1)) j * (ω ^ (2 * step * j) % q) % q
theorem cyX_cg {q ω step h j : Nat} {a : Nat → Nat} : Cg q ((cyX q ω step h a j : Nat) : Int) (zsum (fun i => (a (2 * i + 1) : Int) * (ω : Int) ^ (2 * step * (2 * i + 1) * j)) h) := by
  unfold cyX
  refine (Cg.modN _).trans ?_
  rw [Int.natCast_mul]
  refine (cyF_cg.mul (Cg.powN ω (2 * step * j))).trans (Cg.of_eq ?_)
  rw [← zsum_mul_right]
  refine zsum_congr h fun i _ => ?_
  rw [Int.mul_assoc, ← Int.pow_add]
  congr 2
  grind
theorem cyF_low {q ω step h j : Nat} {a : Nat → Nat} (hq : 0 < q) : cyF q ω step (2 * h) a j = (cyF q ω (2 * step) h (fun i => a (2 * i)) j + cyX q ω step h a j) % q := by
  refine Cg.eq_nat ?_ (cyF_lt hq j) (Nat.mod_lt _ hq)
  refine Cg.trans ?_ (Cg.modN _).symm
  rw [Int.natCast_add]
  refine cyF_cg.trans ?_
  rw [zsum_two]
  refine (Cg.add ?_ cyX_cg).symm
  refine cyF_cg.trans (Cg.of_eq ?_)
  refine zsum_congr h fun i _ => ?_
  congr 2
  grind
theorem cyF_high {q ω step h j : Nat} {a : Nat → Nat} (hq : 0 < q) (hw : Cg q ((ω : Int) ^ (step * (2 * h))) (-1)) : cyF q ω step (2 * h) a (j + h) = (cyF q ω (2 * step) h (fun i => a (2 * i)) j + q - cyX q ω step h a j) % q := by
  have hx : cyX q ω step h a j < q := Nat.mod_lt _ hq
  refine Cg.eq_nat ?_ (cyF_lt hq _) (Nat.mod_lt _ hq)
  refine Cg.trans ?_ (Cg.modN _).symm
  rw [Int.ofNat_sub (by omega), Int.natCast_add]
  refine cyF_cg.trans ?_
  rw [zsum_two]
  have hodd : ∀ i : Nat, (-1 : Int) ^ (2 * i + 1) = -1 := fun i => by rw [Int.pow_succ, Int.pow_mul]; simp [Int.one_pow]
  have heven : ∀ i : Nat, (-1 : Int) ^ (2 * i) = 1 := fun i => by rw [Int.pow_mul]; simp [Int.one_pow]
  have h1 : Cg q (zsum (fun i => ((a (2 * i) : Nat) : Int) * (ω : Int) ^ (2 * step * (2 * i) * (j + h))) h) ((cyF q ω (2 * step) h (fun i => a (2 * i)) j : Nat) : Int) := by
    refine Cg.trans ?_ cyF_cg.symm
    refine Cg.sum h fun i _ => (Cg.refl q _).mul ?_
    have e : (ω : Int) ^ (2 * step * (2 * i) * (j + h)) = (ω : Int) ^ (2 * (2 * step) * i * j) * ((ω : Int) ^ (step * (2 * h))) ^ (2 * i) := by
      rw [← Int.pow_mul, ← Int.pow_add]
      congr 1
      grind
    rw [e]
    have := (Cg.refl q ((ω : Int) ^ (2 * (2 * step) * i * j))).mul (hw.pow (2 * i))
    rwa [heven, Int.mul_one] at this
  have h2 : Cg q (zsum (fun i => ((a (2 * i + 1) : Nat) : Int) * (ω : Int) ^ (2 * step * (2 * i + 1) * (j + h))) h) (-((cyX q ω step h a j : Nat) : Int)) := by
    refine Cg.trans ?_ cyX_cg.neg.symm
    have e0 : -zsum (fun i => ((a (2 * i + 1) : Nat) : Int) * (ω : Int) ^ (2 * step * (2 * i + 1) * j)) h = zsum (fun i => -1 * (((a (2 * i + 1) : Nat) : Int) * (ω : Int) ^ (2 * step * (2 * i + 1) * j))) h := by
      rw [zsum_mul_left]; omega
    rw [e0]
    refine Cg.sum h fun i _ => ?_
    have e : (ω : Int) ^ (2 * step * (2 * i + 1) * (j + h)) = (ω : Int) ^ (2 * step * (2 * i + 1) * j) * ((ω : Int) ^ (step * (2 * h))) ^ (2 * i + 1) := by
      rw [← Int.pow_mul, ← Int.pow_add]
      congr 1
      grind
    rw [e]
    have := (Cg.refl q (((a (2 * i + 1) : Nat) : Int) * (ω : Int) ^ (2 * step * (2 * i + 1) * j))).mul (hw.pow (2 * i + 1))
    rw [hodd] at this
    refine Cg.trans (Cg.of_eq ?_) (this.trans (Cg.of_eq ?_))
    · rw [Int.mul_assoc]
    · omega
  have h3 := h1.add h2
  refine h3.trans ?_
  refine ⟨-1, by omega⟩

/-- Forward, by halves -/
theorem fwd_cyF {q n ψ j : Nat} {a x : Nat → Nat} (hq : 0 < q) (hj : j < n) (hx : ∀ i, i < n → x i = a i * (ψ ^ i % q) % q) : cyF q ψ 1 n x j = fwd q n ψ a j := by
  refine Cg.eq_nat ?_ (cyF_lt hq j) (fwd_lt hq j)
  refine (cyF_cg.trans ?_).trans (fwd_cg hj).symm
  refine Cg.sum n fun i hi => ?_
  rw [hx i hi]
  have h1 : Cg q ((a i * (ψ ^ i % q) % q : Nat) : Int) ((a i : Int) * (ψ : Int) ^ i) := by
    refine (Cg.modN _).trans ?_
    rw [Int.natCast_mul]
    exact (Cg.refl q _).mul (Cg.powN ψ i)
  refine (h1.mul (Cg.refl q _)).trans (Cg.of_eq ?_)
  rw [Int.mul_assoc, ← Int.pow_add]
  congr 2
  grind
/-- Inverse, by halves: w is the power 2 n - 1 of the root -/
theorem ivs_cyF {q n ψ s i : Nat} {a : Nat → Nat} (hq : 0 < q) (hi : i < n) : cyF q (ψ ^ (2 * n - 1)) 1 n a i * ((ψ ^ (2 * n - 1)) ^ i % q) % q * s % q = ivs q n ψ s a i := by
  refine Cg.eq_nat ?_ (Nat.mod_lt _ hq) (ivs_lt hq i)
  refine Cg.trans ?_ (ivs_cg hi).symm
  refine (Cg.modN _).trans ?_
  rw [Int.natCast_mul]
  refine Cg.mul ((Cg.modN _).trans ?_) (Cg.refl q _)
  rw [Int.natCast_mul]
  refine (cyF_cg.mul (Cg.powN _ i)).trans (Cg.of_eq ?_)
  rw [← zsum_mul_right]
  refine zsum_congr n fun j _ => ?_
  rw [Int.natCast_pow, ← Int.pow_mul, ← Int.pow_mul, Int.mul_assoc, ← Int.pow_add]
  congr 2
  grind
theorem back_exp {n k : Nat} (hn : 0 < n) : (2 * n - k % (2 * n)) % (2 * n) % (2 * n) = (2 * n - 1) * k % (2 * n) := by
  have h1 := Nat.mod_lt k (show 0 < 2 * n by omega)
  obtain ⟨r, hr⟩ : ∃ r, k % (2 * n) = r := ⟨_, rfl⟩
  have h2 : (2 * n - 1) * k % (2 * n) = (2 * n - 1) * r % (2 * n) := by rw [Nat.mul_mod, hr, Nat.mul_mod (2 * n - 1) r, ← hr, Nat.mod_mod]
  rw [hr] at h1 ⊢
  rw [Nat.mod_mod, h2]
  rcases Nat.eq_zero_or_pos r with h0 | h0
  · subst h0; simp
  · have h3 : (2 * n - 1) * r = 2 * n * (r - 1) + (2 * n - r) := by
      obtain ⟨t, rfl⟩ : ∃ t, r = t + 1 := ⟨r - 1, by omega⟩
      rw [Nat.add_sub_cancel]
      have : (2 * n - 1) * (t + 1) + (t + 1) = 2 * n * (t + 1) := by rw [← Nat.succ_mul]; congr 1; omega
      have e2 : 2 * n * (t + 1) = 2 * n * t + 2 * n := by rw [Nat.mul_add, Nat.mul_one]
      omega
    rw [h3, Nat.mul_add_mod]
theorem Rt.back {q n ψ k : Nat} (h : Rt q n ψ) : ψ ^ ((2 * n - k % (2 * n)) % (2 * n)) % q = (ψ ^ (2 * n - 1)) ^ k % q := by
  have h1 := h.per (back_exp (k := k) h.n0)
  rw [← Int.natCast_pow, ← Int.natCast_pow] at h1
  rw [← Nat.pow_mul]
  exact Cg.nat.1 h1
theorem Rt.front {q n ψ k : Nat} (h : Rt q n ψ) : ψ ^ (k % (2 * n)) % q = ψ ^ k % q := by
  have h1 := h.per (e := k % (2 * n)) (f := k) (Nat.mod_mod _ _)
  rw [← Int.natCast_pow, ← Int.natCast_pow] at h1
  exact Cg.nat.1 h1
theorem Rt.negb {q n ψ : Nat} (h : Rt q n ψ) : Cg q (((ψ ^ (2 * n - 1) : Nat) : Int) ^ n) (-1) := by
  rw [Int.natCast_pow]
  have := h.place (n - 1)
  rwa [show 2 * (n - 1) + 1 = 2 * n - 1 by have := h.n0; omega] at this

/-! ### products modulo x^n + 1 -/
/-- what the pair i, j gives to the element k -/
def prT (q n : Nat) (a b : Nat → Nat) (i j k : Nat) : Nat := if i + j = k then a i * b j % q else if i + j = k + n then (q - a i * b j % q) % q else 0
/-- the first i rows, and j pairs more -/
def prA (q n : Nat) (a b : Nat → Nat) (i j k : Nat) : Nat := (sumN (fun i' => sumN (fun j' => prT q n a b i' j' k) n) i + sumN (fun j' => prT q n a b i j' k) j) % q
def prF (q n : Nat) (a b : Nat → Nat) (k : Nat) : Nat := if k < n then prA q n a b n 0 k else 0
theorem prA_zero (q n : Nat) (a b : Nat → Nat) (k : Nat) : prA q n a b 0 0 k = 0 := Nat.zero_mod q
theorem prA_row (q n : Nat) (a b : Nat → Nat) (i k : Nat) : prA q n a b i n k = prA q n a b (i + 1) 0 k := by
  unfold prA
  show _ = (sumN _ i + sumN (fun j' => prT q n a b i j' k) n + 0) % q
  rw [Nat.add_zero]
theorem prA_next (q n : Nat) (a b : Nat → Nat) (i j k : Nat) : prA q n a b i (j + 1) k = (prA q n a b i j k + prT q n a b i j k) % q := by
  unfold prA
  rw [Nat.mod_add_mod, Nat.add_assoc]
  rfl
theorem prA_lt {q n : Nat} {a b : Nat → Nat} (hq : 0 < q) (i j k : Nat) : prA q n a b i j k < q := Nat.mod_lt _ hq
theorem prF_lt {q n : Nat} {a b : Nat → Nat} (hq : 0 < q) (k : Nat) : prF q n a b k < q := by
  unfold prF
  split
  · exact prA_lt hq _ _ _
  · exact hq
theorem prF_out {q n k : Nat} {a b : Nat → Nat} (h : n ≤ k) : prF q n a b k = 0 := if_neg (by omega)
/-- the value of a product at a root of x^n + 1 is the product of the values -/
theorem prF_val {q n : Nat} {a b : Nat → Nat} {x : Int} (hq : 0 < q) (hx : Cg q (x ^ n) (-1)) : Cg q (zsum (fun k => ((prF q n a b k : Nat) : Int) * x ^ k) n) (zsum (fun i => (a i : Int) * x ^ i) n * zsum (fun j => (b j : Int) * x ^ j) n) := by
  have h1 : Cg q (zsum (fun k => ((prF q n a b k : Nat) : Int) * x ^ k) n) (zsum (fun k => zsum (fun i => zsum (fun j => ((prT q n a b i j k : Nat) : Int) * x ^ k) n) n) n) := by
    refine Cg.sum n fun k hk => ?_
    unfold prF prA
    rw [if_pos hk]
    refine ((Cg.modN _).mul (Cg.refl q _)).trans (Cg.of_eq ?_)
    show ((sumN (fun i' => sumN (fun j' => prT q n a b i' j' k) n) n + 0 : Nat) : Int) * x ^ k = _
    rw [Nat.add_zero, zsum_cast, ← zsum_mul_right]
    exact zsum_congr n fun i _ => by rw [zsum_cast, ← zsum_mul_right]
  refine h1.trans ?_
  have e1 : zsum (fun k => zsum (fun i => zsum (fun j => ((prT q n a b i j k : Nat) : Int) * x ^ k) n) n) n = zsum (fun i => zsum (fun j => zsum (fun k => ((prT q n a b i j k : Nat) : Int) * x ^ k) n) n) n := by
    rw [zsum_swap]
    exact zsum_congr n fun i _ => zsum_swap _ _ _
  have e2 : zsum (fun i => (a i : Int) * x ^ i) n * zsum (fun j => (b j : Int) * x ^ j) n = zsum (fun i => zsum (fun j => (a i : Int) * (b j : Int) * x ^ (i + j)) n) n := by
    rw [← zsum_mul_right]
    refine zsum_congr n fun i _ => ?_
    rw [← zsum_mul_left]
    refine zsum_congr n fun j _ => ?_
    rw [Int.pow_add]
    grind
  rw [e1, e2]
  refine Cg.sum n fun i hi => Cg.sum n fun j hj => ?_
  have hab : Cg q ((a i * b j % q : Nat) : Int) ((a i : Int) * (b j : Int)) := by
    have := Cg.modN (q := q) (a i * b j)
    rwa [Int.natCast_mul] at this
  by_cases hlt : i + j < n
  · rw [zsum_one (j := i + j) n hlt fun k _ he => by unfold prT; rw [if_neg (fun h => he h.symm), if_neg (by omega)]; simp]
    unfold prT
    rw [if_pos rfl]
    exact hab.mul (Cg.refl q _)
  · obtain ⟨k, hk⟩ : ∃ k, i + j = k + n := ⟨i + j - n, by omega⟩
    rw [zsum_one (j := k) n (by omega) fun k' _ he => by unfold prT; rw [if_neg (by omega), if_neg (by omega)]; simp]
    unfold prT
    rw [if_neg (by omega), if_pos hk, hk, Int.pow_add]
    have hlt2 : a i * b j % q < q := Nat.mod_lt _ hq
    have h2 : Cg q (((q - a i * b j % q) % q : Nat) : Int) (-((a i : Int) * (b j : Int))) := by
      refine (Cg.modN _).trans ?_
      rw [Int.ofNat_sub (by omega)]
      have h3 := hab.neg
      refine Cg.trans ⟨1, ?_⟩ h3
      omega
    refine (h2.mul (Cg.refl q (x ^ k))).trans ?_
    have h4 := ((Cg.refl q ((a i : Int) * (b j : Int) * x ^ k)).mul hx).symm
    refine Cg.trans (Cg.of_eq ?_) (h4.trans (Cg.of_eq ?_))
    · grind
    · grind
theorem fwd_val {q n ψ j : Nat} {a : Nat → Nat} (h : j < n) : Cg q ((fwd q n ψ a j : Nat) : Int) (zsum (fun i => (a i : Int) * ((ψ : Int) ^ (2 * j + 1)) ^ i) n) := by
  refine (fwd_cg h).trans (Cg.of_eq (zsum_congr n fun i _ => ?_))
  rw [← Int.pow_mul]
  congr 2
  grind
theorem fwd_pr {q n ψ : Nat} {a b : Nat → Nat} (h : Rt q n ψ) {j : Nat} (hj : j < n) : fwd q n ψ (prF q n a b) j = fwd q n ψ a j * fwd q n ψ b j % q := by
  have hq : 0 < q := by have := h.pr.1; omega
  refine Cg.eq_nat ?_ (fwd_lt hq j) (Nat.mod_lt _ hq)
  refine (fwd_val hj).trans ((prF_val hq (h.place j)).trans ?_)
  refine Cg.trans ?_ (Cg.modN _).symm
  rw [Int.natCast_mul]
  exact ((fwd_val hj).mul (fwd_val hj)).symm
/-- how Mul multiplies -/
theorem ivs_pr {q n ψ s : Nat} {a b x : Nat → Nat} (h : Rt q n ψ) (hs : Cg q ((s : Int) * n) 1) (hx : ∀ j, j < n → x j = fwd q n ψ a j * fwd q n ψ b j % q) {k : Nat} (hk : k < n) : ivs q n ψ s x k = prF q n a b k := by
  have hq : 0 < q := by have := h.pr.1; omega
  have h1 := ivs_fwd (a := prF q n a b) h hs (fun j _ => prF_lt hq j) hk
  rw [← h1]
  unfold ivs
  rw [if_pos hk, if_pos hk, sumN_congr n fun j hj => by rw [hx j hj, ← fwd_pr h hj]]
end Go.Proofs.Ytkklacgoeopekaa
