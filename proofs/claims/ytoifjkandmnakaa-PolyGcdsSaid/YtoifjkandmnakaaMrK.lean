/- The strong tests to the bases 2, 7 and 61 are exact below 2^32: plain Lean, no program in sight. -/
import Derived.Test.YtoifjkandmnakaaMrA
namespace Go.Proofs.Ytoifjkandmnakaa.Mr
/-! ### functions for the kernel -/
def force {α : Type} (n : Nat) (f : Nat → α) : α := Nat.rec (motive := fun _ => α) (f 0) (fun m _ => f (Nat.succ m)) n
theorem force_eq {α : Type} (n : Nat) (f : Nat → α) : force n f = f n := by cases n <;> rfl

/-- a ^ e mod n, k the base of the leaps -/
def pwK (k a e n : Nat) : Nat :=
  force (Nat.mod (Nat.pow a (Nat.shiftRight e 20)) n) fun x0 =>
  force (Nat.mod (Nat.mul (Nat.mod (Nat.pow x0 k) n) (Nat.pow a (Nat.mod (Nat.shiftRight e 10) k))) n) fun x1 =>
  Nat.mod (Nat.mul (Nat.mod (Nat.pow x1 k) n) (Nat.pow a (Nat.mod e k))) n
def pw (a e n : Nat) : Nat := pwK 1024 a e n
theorem pw_step {a n x e f k : Nat} (h : x = a ^ e % n) : (x ^ k % n * a ^ f) % n = a ^ (e * k + f) % n := by
  rw [h, ← Nat.pow_mod, Nat.mod_mul_mod, ← Nat.pow_mul, ← Nat.pow_add]
theorem pw_gen (a n u v w k : Nat) : ((((a ^ u % n) ^ k % n * a ^ v) % n) ^ k % n * a ^ w) % n = a ^ ((u * k + v) * k + w) % n :=
  pw_step (pw_step rfl)
theorem pw_exp (e k : Nat) (hk : k = 1024) : (e / 1048576 * k + e / 1024 % k) * k + e % k = e := by
  subst hk
  rw [show e / 1048576 * 1024 + e / 1024 % 1024 = e / 1024 by omega]
  omega
theorem pwK_eq (k a e n : Nat) (hk : k = 1024) : pwK k a e n = a ^ e % n := by
  have e1 : Nat.shiftRight e 20 = e / 1048576 := by show e >>> 20 = _; rw [Nat.shiftRight_eq_div_pow]
  have e2 : Nat.shiftRight e 10 = e / 1024 := by show e >>> 10 = _; rw [Nat.shiftRight_eq_div_pow]
  unfold pwK
  rw [force_eq, force_eq, e1, e2]
  have h := pw_gen a n (e / 1048576) (e / 1024 % k) (e % k) k
  rw [pw_exp e k hk] at h
  exact h
theorem pw_eq (a e n : Nat) : pw a e n = a ^ e % n := pwK_eq 1024 a e n rfl

/-- the strong test, from the exponent (n - 1) / 2 downward -/
def sr (a n fuel : Nat) : Nat → Bool :=
  Nat.rec (motive := fun _ => Nat → Bool) (fun _ => true) (fun _ ih e =>
    force (pw a e n) fun x => cond (Nat.beq x (Nat.pred n)) true (cond (Nat.beq x 1) (cond (Nat.beq (Nat.mod e 2) 1) true (force (Nat.div e 2) ih)) false)) fuel
theorem sr_zero (a n e : Nat) : sr a n 0 e = true := rfl
theorem sr_succ (a n f e : Nat) : sr a n (f + 1) e = cond (Nat.beq (a ^ e % n) (n - 1)) true (cond (Nat.beq (a ^ e % n) 1) (cond (Nat.beq (e % 2) 1) true (sr a n f (e / 2))) false) := by
  have h : sr a n (f + 1) e = force (pw a e n) fun x => cond (Nat.beq x (Nat.pred n)) true (cond (Nat.beq x 1) (cond (Nat.beq (Nat.mod e 2) 1) true (force (Nat.div e 2) (sr a n f))) false) := rfl
  rw [h, force_eq, force_eq, pw_eq]
  rfl
theorem sr_of {a n s d : Nat} (hn : 2 < n) (hd : d % 2 = 1) : ∀ fuel j, j < s → (a ^ d % n = 1 ∨ ∃ r, r ≤ j ∧ a ^ (2 ^ r * d) % n = n - 1) → sr a n fuel (2 ^ j * d) = true := by
  intro fuel
  induction fuel with
  | zero => intro j _ _; rfl
  | succ f ih =>
    intro j hj h
    rw [sr_succ]
    by_cases h1 : a ^ (2 ^ j * d) % n = n - 1
    · rw [show Nat.beq (a ^ (2 ^ j * d) % n) (n - 1) = true from Nat.beq_eq.mpr h1]; rfl
    · have hne : Nat.beq (a ^ (2 ^ j * d) % n) (n - 1) = false := by
        cases hb : Nat.beq (a ^ (2 ^ j * d) % n) (n - 1)
        · rfl
        · exact absurd (Nat.eq_of_beq_eq_true hb) h1
      have hone : a ^ (2 ^ j * d) % n = 1 := by
        have hU : U n a (2 ^ j * d) := by
          rcases h with h | ⟨r, hr, h⟩
          · have : U n a d := by unfold U; rw [h, Nat.mod_eq_of_lt (by omega)]
            exact this.dvd (Nat.dvd_mul_left _ _)
          · refine U.of_neg (by omega) h j ?_
            rcases Nat.lt_or_ge r j with h2 | h2
            · exact h2
            · obtain rfl : r = j := by omega
              exact absurd h h1
        unfold U at hU
        rw [hU, Nat.mod_eq_of_lt (by omega)]
      rw [hne, show Nat.beq (a ^ (2 ^ j * d) % n) 1 = true from Nat.beq_eq.mpr hone]
      show cond (Nat.beq (2 ^ j * d % 2) 1) true (sr a n f (2 ^ j * d / 2)) = true
      cases j with
      | zero =>
        rw [Nat.pow_zero, Nat.one_mul, show Nat.beq (d % 2) 1 = true from Nat.beq_eq.mpr hd]
        rfl
      | succ j =>
        have e1 : 2 ^ (j + 1) * d / 2 = 2 ^ j * d := by
          rw [Nat.pow_succ, Nat.mul_right_comm, Nat.mul_div_cancel _ (by omega)]
        rw [e1, ih j (by omega)]
        · cases Nat.beq (2 ^ (j + 1) * d % 2) 1 <;> rfl
        · rcases h with h | ⟨r, hr, h⟩
          · exact .inl h
          · refine .inr ⟨r, ?_, h⟩
            rcases Nat.lt_or_ge r (j + 1) with h2 | h2
            · omega
            · obtain rfl : r = j + 1 := by omega
              exact absurd h h1
theorem sr_SP {a n : Nat} (hn : 2 < n) (hodd : n % 2 = 1) (h : SP a n) (fuel : Nat) : sr a n fuel ((n - 1) / 2) = true := by
  obtain ⟨s, d, h1, h2, h3⟩ := h
  cases s with
  | zero =>
    rw [Nat.pow_zero, Nat.one_mul] at h1
    omega
  | succ s =>
    have e1 : (n - 1) / 2 = 2 ^ s * d := by rw [h1, Nat.pow_succ, Nat.mul_right_comm, Nat.mul_div_cancel _ (by omega)]
    rw [e1]
    refine sr_of (s := s + 1) hn h2 fuel s (by omega) ?_
    rcases h3 with h3 | ⟨r, hr, h3⟩
    · exact .inl h3
    · exact .inr ⟨r, by omega, h3⟩

/-- true: n is no strong probable prime to all three bases -/
def leaf (n : Nat) : Bool := force (Nat.div (Nat.pred n) 2) fun e => cond (sr 2 n 32 e) (cond (sr 7 n 32 e) (cond (sr 61 n 32 e) false true) true) true
theorem leaf_ok {n : Nat} (hn : 2 < n) (hodd : n % 2 = 1) (h : leaf n = true) : ¬ SP3 n := by
  rintro ⟨h2, h7, h61⟩
  unfold leaf at h
  rw [force_eq] at h
  have e : Nat.div (Nat.pred n) 2 = (n - 1) / 2 := rfl
  rw [e, sr_SP hn hodd h2, sr_SP hn hodd h7, sr_SP hn hodd h61] at h
  cases h

/-- all of n, n + s, .. (c of them) -/
def run (s c : Nat) : Nat → Bool :=
  Nat.rec (motive := fun _ => Nat → Bool) (fun _ => true) (fun _ ih n => force n fun n => cond (leaf n) (ih (Nat.add n s)) false) c
theorem run_ok {s : Nat} : ∀ c n, run s c n = true → ∀ i, i < c → leaf (n + s * i) = true := by
  intro c
  induction c with
  | zero => intro n _ i hi; omega
  | succ c ih =>
    intro n h i hi
    have h' : cond (leaf n) (run s c (n + s)) false = true := by
      have : run s (c + 1) n = force n fun n => cond (leaf n) (run s c (Nat.add n s)) false := rfl
      rw [this, force_eq] at h
      exact h
    cases hl : leaf n
    · rw [hl] at h'; cases h'
    · rw [hl] at h'
      cases i with
      | zero => exact hl
      | succ i =>
        have := ih (n + s) h' i (by omega)
        rw [Nat.mul_succ, Nat.add_comm (s * i), ← Nat.add_assoc]
        exact this

/-! ### the exponents of a prime -/
def sps : List Nat := [2, 3, 5, 7, 11, 13, 17, 19, 23, 29, 31, 37, 41, 43, 47, 53, 59, 61, 67, 71, 73, 79, 83, 89, 97, 101, 103, 107, 109, 113, 127, 131, 137, 139, 149, 151, 157, 163, 167, 173, 179, 181, 191, 193, 197, 199, 211, 223, 227, 229, 233, 239, 241, 251]
def Z2 : Nat := 64266330917908644872330635228106713310880186591609208114244758680898150367880703152525200743234420230
theorem Z2_eq : Z2 = sps.foldl (· * ·) 1 := by decide +kernel
/-- every prime below 256 is in the list -/
theorem sps_all : (List.range 256).all (fun m => sps.contains m || (Nat.blt m 2) || (List.range m).any fun d => Nat.blt 1 d && Nat.beq (m % d) 0) = true := by decide +kernel
theorem sps_dvd : sps.all (fun q => Nat.beq (Z2 % q) 0) = true := by decide +kernel
theorem mem_sps {q : Nat} (hq : Pr q) (h : q < 256) : q ∈ sps := by
  have h1 := List.all_eq_true.1 sps_all q (List.mem_range.2 h)
  simp only [Bool.or_eq_true, List.contains_iff_mem, List.any_eq_true, List.mem_range, Bool.and_eq_true] at h1
  rcases h1 with (h1 | h1) | ⟨d, hd, h2, h3⟩
  · exact h1
  · have := hq.1
    simp [Nat.blt] at h1
    omega
  · have h4 : 2 ≤ d := by simpa [Nat.blt] using h2
    rcases hq.2 d (Nat.dvd_of_mod_eq_zero (Nat.eq_of_beq_eq_true h3)) with h5 | h5 <;> omega
theorem sps_Z2 {q : Nat} (h : q ∈ sps) : q ∣ Z2 := Nat.dvd_of_mod_eq_zero (Nat.eq_of_beq_eq_true (List.all_eq_true.1 sps_dvd q h))
theorem prime_dvd_foldl {q : Nat} (hq : Pr q) : ∀ (l : List Nat) (a : Nat), q ∣ l.foldl (· * ·) a → q ∣ a ∨ ∃ x ∈ l, q ∣ x
  | [], a, h => .inl h
  | x :: l, a, h => by
    rcases prime_dvd_foldl hq l (a * x) h with h1 | ⟨y, hy, h1⟩
    · rcases hq.dvd_mul h1 with h2 | h2
      · exact .inl h2
      · exact .inr ⟨x, List.mem_cons_self, h2⟩
    · exact .inr ⟨y, List.mem_cons_of_mem _ hy, h1⟩
theorem sps_lt : sps.all (fun q => Nat.blt q 256 && Nat.blt 1 q) = true := by decide +kernel
theorem prime_dvd_Z2 {q : Nat} (hq : Pr q) (h : q ∣ Z2) : q < 256 := by
  rw [Z2_eq] at h
  rcases prime_dvd_foldl hq sps 1 h with h1 | ⟨x, hx, h1⟩
  · have := Nat.le_of_dvd (by omega) h1
    have := hq.1
    omega
  · have h2 := List.all_eq_true.1 sps_lt x hx
    simp [Nat.blt] at h2
    have := Nat.le_of_dvd (by omega) h1
    omega
/-- whatever has no divisor in Z2 and is less than 65536 is 1 or a prime -/
theorem pr_of_coprime {r : Nat} (h2 : 2 ≤ r) (h : r < 65536) (hg : Nat.gcd r Z2 = 1) : Pr r := by
  have key : ∀ q, Pr q → q ∣ r → 256 ≤ q := fun q hq hqr => by
    rcases Nat.lt_or_ge q 256 with h3 | h3
    · have := Nat.dvd_gcd hqr (sps_Z2 (mem_sps hq h3))
      rw [hg] at this
      have := Nat.le_of_dvd (by omega) this
      have := hq.1
      omega
    · exact h3
  obtain ⟨q, hq, c, hc⟩ := exists_prime_dvd r h2
  have hq1 := key q hq ⟨c, hc⟩
  rcases Nat.lt_or_ge c 2 with hc2 | hc2
  · have : c = 1 := by
      rcases Nat.eq_zero_or_pos c with h0 | h0
      · subst h0; omega
      · omega
    subst this
    rw [Nat.mul_one] at hc
    rw [hc]
    exact hq
  · obtain ⟨q2, hq2, hq3⟩ := exists_prime_dvd c hc2
    have h5 := key q2 hq2 (Nat.dvd_trans hq3 ⟨q, by rw [hc, Nat.mul_comm]⟩)
    have h6 := Nat.le_of_dvd (by omega) hq3
    have : 256 * 256 ≤ q * c := Nat.mul_le_mul hq1 (by omega)
    omega

def pwS (a e p : Nat) : Nat := force (Nat.mod (Nat.pow a (Nat.shiftRight e 8)) p) fun x => Nat.mod (Nat.mul (Nat.pow x 256) (Nat.pow a (Nat.mod e 256))) p
theorem pwS_eq (a e p : Nat) : pwS a e p = a ^ e % p := by
  unfold pwS
  rw [force_eq]
  have e1 : Nat.shiftRight e 8 = e / 256 := by show e >>> 8 = _; rw [Nat.shiftRight_eq_div_pow]
  rw [e1]
  show ((a ^ (e / 256) % p) ^ 256 * a ^ (e % 256)) % p = _
  rw [Nat.mul_mod, ← Nat.pow_mod, ← Nat.mul_mod, ← Nat.pow_mul, ← Nat.pow_add, show e / 256 * 256 + e % 256 = e by omega]
def one3 (p e : Nat) : Bool := cond (Nat.beq (pwS 2 e p) 1) (cond (Nat.beq (pwS 7 e p) 1) (Nat.beq (pwS 61 e p) 1) false) false
theorem one3_iff {p e : Nat} (hp : 2 ≤ p) : one3 p e = true ↔ U3 p e := by
  have h1 : 1 % p = 1 := Nat.mod_eq_of_lt (by omega)
  have hb : ∀ a, Nat.beq (pwS a e p) 1 = true ↔ U p a e := fun a => by
    unfold U
    rw [h1, Nat.beq_eq, pwS_eq]
  unfold one3 U3
  rw [← hb, ← hb, ← hb]
  cases Nat.beq (pwS 2 e p) 1 <;> cases Nat.beq (pwS 7 e p) 1 <;> simp
/-- the part without small primes -/
def rough (fuel : Nat) : Nat → Nat :=
  Nat.rec (motive := fun _ => Nat → Nat) (fun r => r) (fun _ ih r => force (Nat.gcd r Z2) fun g => cond (Nat.beq g 1) r (force (Nat.div r g) ih)) fuel
theorem rough_dvd {q : Nat} (hq : Pr q) (h256 : 256 ≤ q) : ∀ fuel r, 0 < r → q ∣ r → q ∣ rough fuel r ∧ 0 < rough fuel r := by
  intro fuel
  induction fuel with
  | zero => intro r h0 h; exact ⟨h, h0⟩
  | succ f ih =>
    intro r h0 h
    have e : rough (f + 1) r = cond (Nat.beq (Nat.gcd r Z2) 1) r (rough f (r / Nat.gcd r Z2)) := by
      have h : rough (f + 1) r = force (Nat.gcd r Z2) fun g => cond (Nat.beq g 1) r (force (Nat.div r g) (rough f)) := rfl
      rw [h, force_eq, force_eq]
      rfl
    rw [e]
    cases Nat.beq (Nat.gcd r Z2) 1
    · obtain ⟨c, hc⟩ := Nat.gcd_dvd_left r Z2
      have hg : 0 < Nat.gcd r Z2 := Nat.gcd_pos_of_pos_left _ h0
      have e2 : r / Nat.gcd r Z2 = c := by
        conv => lhs; arg 1; rw [hc]
        exact Nat.mul_div_cancel_left _ hg
      have hc0 : 0 < c := by
        rcases Nat.eq_zero_or_pos c with h1 | h1
        · rw [h1, Nat.mul_zero] at hc; omega
        · exact h1
      show q ∣ rough f (r / Nat.gcd r Z2) ∧ _
      rw [e2]
      refine ih c hc0 ?_
      rw [hc] at h
      rcases hq.dvd_mul h with h1 | h1
      · have := prime_dvd_Z2 hq (Nat.dvd_trans h1 (Nat.gcd_dvd_right _ _))
        omega
      · exact h1
    · exact ⟨h, h0⟩
def red (p q fuel : Nat) : Nat → Nat :=
  Nat.rec (motive := fun _ => Nat → Nat) (fun L => L) (fun _ ih L => cond (Nat.beq (Nat.mod L q) 0) (force (Nat.div L q) fun M => cond (one3 p M) (ih M) L) L) fuel
/-- a first guess of the least exponent -/
noncomputable def guess (p : Nat) : Nat :=
  force (List.rec (motive := fun _ => Nat → Nat) (fun L => L) (fun q _ ih L => force (red p q 16 L) ih) sps (Nat.pred p)) fun L =>
  force (rough 17 L) fun r => cond (Nat.ble r 1) L (red p r 1 L)
/-- the guess is right -/
noncomputable def cert (p L : Nat) : Bool :=
  cond (Nat.ble 2 p && Nat.ble 1 L && Nat.beq (Nat.mod (Nat.pred p) L) 0 && Nat.blt L 65536) (cond (one3 p L)
    (cond (List.rec (motive := fun _ => Bool) true (fun q _ ih => cond (Nat.beq (Nat.mod L q) 0) (cond (one3 p (Nat.div L q)) false ih) ih) sps)
      (force (rough 17 L) fun r => cond (Nat.ble r 1) true (cond (Nat.beq (Nat.gcd r Z2) 1) (cond (Nat.beq (Nat.mod L r) 0) (cond (one3 p (Nat.div L r)) false true) false) false)) false) false) false
theorem cert_list {p L : Nat} (hp : 2 ≤ p) : ∀ l : List Nat, List.rec (motive := fun _ => Bool) true (fun q _ ih => cond (Nat.beq (Nat.mod L q) 0) (cond (one3 p (Nat.div L q)) false ih) ih) l = true → ∀ q ∈ l, q ∣ L → ¬ U3 p (L / q)
  | [], _, q, h, _ => absurd h List.not_mem_nil
  | x :: l, h, q, hq, hd => by
    have h' : cond (Nat.beq (L % x) 0) (cond (one3 p (L / x)) false (List.rec (motive := fun _ => Bool) true (fun q _ ih => cond (Nat.beq (Nat.mod L q) 0) (cond (one3 p (Nat.div L q)) false ih) ih) l)) (List.rec (motive := fun _ => Bool) true (fun q _ ih => cond (Nat.beq (Nat.mod L q) 0) (cond (one3 p (Nat.div L q)) false ih) ih) l) = true := h
    rcases List.mem_cons.1 hq with rfl | hq
    · rw [show Nat.beq (L % q) 0 = true from Nat.beq_eq.mpr (Nat.mod_eq_zero_of_dvd hd)] at h'
      intro hu
      rw [show one3 p (L / q) = true from (one3_iff hp).2 hu] at h'
      cases h'
    · refine cert_list hp l ?_ q hq hd
      cases h1 : Nat.beq (L % x) 0
      · rw [h1] at h'; exact h'
      · rw [h1] at h'
        cases h2 : one3 p (L / x)
        · rw [h2] at h'; exact h'
        · rw [h2] at h'; cases h'
theorem cert_ok {p L : Nat} (h : cert p L = true) : 2 ≤ p ∧ 1 ≤ L ∧ L ∣ p - 1 ∧ Ann p L := by
  unfold cert at h
  cases h1 : (Nat.ble 2 p && Nat.ble 1 L && Nat.beq (Nat.mod (Nat.pred p) L) 0 && Nat.blt L 65536)
  · rw [h1] at h; cases h
  rw [h1] at h
  cases h2 : one3 p L
  · rw [h2] at h; cases h
  rw [h2] at h
  simp only [Bool.and_eq_true] at h1
  obtain ⟨⟨⟨a1, a2⟩, a3⟩, a4⟩ := h1
  have a1 := Nat.le_of_ble_eq_true a1
  have a2 := Nat.le_of_ble_eq_true a2
  have a3 := Nat.dvd_of_mod_eq_zero (Nat.eq_of_beq_eq_true a3)
  have a4 : L < 65536 := Nat.le_of_ble_eq_true a4
  refine ⟨a1, a2, a3, ann_of a2 ((one3_iff a1).1 h2) fun q hq hqL => ?_⟩
  cases h3 : (List.rec (motive := fun _ => Bool) true (fun q _ ih => cond (Nat.beq (Nat.mod L q) 0) (cond (one3 p (Nat.div L q)) false ih) ih) sps : Bool)
  · rw [h3] at h; cases h
  rw [h3] at h
  rcases Nat.lt_or_ge q 256 with hs | hs
  · exact cert_list a1 sps h3 q (mem_sps hq hs) hqL
  · obtain ⟨hr, hr0⟩ := rough_dvd hq hs 17 L (by omega) hqL
    have h4 : force (rough 17 L) (fun r => cond (Nat.ble r 1) true (cond (Nat.beq (Nat.gcd r Z2) 1) (cond (Nat.beq (Nat.mod L r) 0) (cond (one3 p (Nat.div L r)) false true) false) false)) = true := h
    rw [force_eq] at h4
    generalize rough 17 L = r at hr hr0 h4
    have hqr := Nat.le_of_dvd hr0 hr
    have c1 : Nat.ble r 1 = false := by
      cases hb : Nat.ble r 1
      · rfl
      · have := Nat.le_of_ble_eq_true hb; omega
    rw [c1] at h4
    cases c2 : Nat.beq (Nat.gcd r Z2) 1
    · rw [c2] at h4; cases h4
    rw [c2] at h4
    cases c3 : Nat.beq (Nat.mod L r) 0
    · rw [c3] at h4; cases h4
    rw [c3] at h4
    cases c4 : one3 p (Nat.div L r)
    · have hrL := Nat.dvd_of_mod_eq_zero (Nat.eq_of_beq_eq_true c3)
      have hrle := Nat.le_of_dvd (by omega) hrL
      have hpr := pr_of_coprime (by omega) (by omega) (Nat.eq_of_beq_eq_true c2)
      rcases hpr.2 q hr with h5 | h5
      · have := hq.1; omega
      · subst h5
        intro hu
        have := (one3_iff a1).2 hu
        rw [show L / q = Nat.div L q from rfl, c4] at this
        cases this
    · rw [c4] at h4; cases h4

/-! ### the direct part: one great prime -/
def NM : Nat := 4294967295
noncomputable def dirP (p : Nat) : Bool :=
  cond (Nat.beq (Nat.gcd p Z2) 1) (force (guess p) fun L => cond (cert p L) (force (cond (Nat.beq (Nat.mod L 2) 0) L (Nat.mul 2 L)) fun M =>
    force (Nat.div (Nat.pred (Nat.div NM p)) M) fun c => force (Nat.mul p (Nat.succ M)) fun n => force (Nat.mul p M) fun s => run s c n) false) true
theorem dirP_ok {p : Nat} (h : dirP p = true) (hg : Nat.gcd p Z2 = 1) (hodd : p % 2 = 1) {k : Nat} (hk : 1 < k) (hko : k % 2 = 1) (hle : p * k ≤ NM) : ¬ SP3 (p * k) := by
  unfold dirP at h
  rw [show Nat.beq (Nat.gcd p Z2) 1 = true from Nat.beq_eq.mpr hg] at h
  have h1 : force (guess p) (fun L => cond (cert p L) (force (cond (Nat.beq (Nat.mod L 2) 0) L (Nat.mul 2 L)) fun M =>
    force (Nat.div (Nat.pred (Nat.div NM p)) M) fun c => force (Nat.mul p (Nat.succ M)) fun n => force (Nat.mul p M) fun s => run s c n) false) = true := h
  rw [force_eq] at h1
  generalize guess p = L at h1
  cases hc : cert p L
  · rw [hc] at h1; cases h1
  rw [hc] at h1
  have h2 : force (cond (Nat.beq (Nat.mod L 2) 0) L (Nat.mul 2 L)) (fun M =>
    force (Nat.div (Nat.pred (Nat.div NM p)) M) fun c => force (Nat.mul p (Nat.succ M)) fun n => force (Nat.mul p M) fun s => run s c n) = true := h1
  rw [force_eq, force_eq, force_eq, force_eq] at h2
  obtain ⟨p2, L1, Lp, hA⟩ := cert_ok hc
  intro hs
  have hn2 : 2 ≤ p * k := Nat.le_trans p2 (Nat.le_mul_of_pos_right _ (by omega))
  have hd := ann_k (by omega) (by omega) Lp hA ((hs.U3 hn2).sub (Nat.dvd_mul_right p k))
  obtain ⟨M, hM⟩ : ∃ M, cond (Nat.beq (Nat.mod L 2) 0) L (Nat.mul 2 L) = M := ⟨_, rfl⟩
  rw [hM] at h2
  have hMk : M ∣ k - 1 ∧ 0 < M := by
    rw [← hM]
    cases hb : Nat.beq (Nat.mod L 2) 0
    · have hLo : L % 2 = 1 := by
        have : L % 2 ≠ 0 := fun e => by
          have : Nat.beq (L % 2) 0 = true := Nat.beq_eq.mpr e
          rw [show Nat.beq (L % 2) 0 = Nat.beq (Nat.mod L 2) 0 from rfl, hb] at this
          cases this
        omega
      refine ⟨?_, by show 0 < 2 * L; omega⟩
      have hcop : Nat.Coprime 2 L := by
        show Nat.gcd 2 L = 1
        rw [Nat.gcd_rec, hLo]
        rfl
      exact hcop.mul_dvd_of_dvd_of_dvd (Nat.dvd_of_mod_eq_zero (by omega)) hd
    · exact ⟨hd, by show 0 < L; omega⟩
  obtain ⟨⟨j, hj⟩, hM0⟩ := hMk
  have hj0 : 0 < j := by
    rcases Nat.eq_zero_or_pos j with h0 | h0
    · subst h0; omega
    · exact h0
  have hkK : k ≤ NM / p := (Nat.le_div_iff_mul_le (by omega)).2 (by rw [Nat.mul_comm]; exact hle)
  have hjc : j ≤ (NM / p - 1) / M := (Nat.le_div_iff_mul_le hM0).2 (by rw [Nat.mul_comm, ← hj]; omega)
  have hl := run_ok _ _ h2 (j - 1) (by show j - 1 < (NM / p - 1) / M; omega)
  have e1 : Nat.mul p (Nat.succ M) + Nat.mul p M * (j - 1) = p * k := by
    show p * (M + 1) + p * M * (j - 1) = p * k
    obtain ⟨i, rfl⟩ : ∃ i, j = i + 1 := ⟨j - 1, by omega⟩
    rw [Nat.add_sub_cancel, show k = (M + 1) + M * i by rw [Nat.mul_succ] at hj; omega, Nat.mul_assoc, ← Nat.mul_add]
  rw [e1] at hl
  have hnodd : p * k % 2 = 1 := by rw [Nat.mul_mod, hodd, hko]
  exact leaf_ok (by omega) hnodd hl hs
/-- c odd numbers from p on -/
noncomputable def dirs (c : Nat) : Nat → Bool := Nat.rec (motive := fun _ => Nat → Bool) (fun _ => true) (fun _ ih p => force p fun p => cond (dirP p) (ih (Nat.add p 2)) false) c
theorem dirs_ok : ∀ c p, dirs c p = true → ∀ i, i < c → dirP (p + 2 * i) = true := by
  intro c
  induction c with
  | zero => intro p _ i hi; omega
  | succ c ih =>
    intro p h i hi
    have h' : cond (dirP p) (dirs c (p + 2)) false = true := by
      have : dirs (c + 1) p = force p fun p => cond (dirP p) (dirs c (Nat.add p 2)) false := rfl
      rw [this, force_eq] at h
      exact h
    cases hl : dirP p
    · rw [hl] at h'; cases h'
    · rw [hl] at h'
      cases i with
      | zero => exact hl
      | succ i =>
        have := ih (p + 2) h' i (by omega)
        rw [show p + 2 * (i + 1) = p + 2 + 2 * i by omega]
        exact this
end Go.Proofs.Ytoifjkandmnakaa.Mr
