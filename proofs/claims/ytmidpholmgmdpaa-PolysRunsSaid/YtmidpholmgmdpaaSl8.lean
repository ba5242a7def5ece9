/- Hensel: a simple root modulo p lifts in one way to a root modulo p^r. -/
/- The slots in plain words: balanced residues, the order of the odd exponents, and that the two transforms undo each other modulo a power of p. -/
import Derived.Test.YtmidpholmgmdpaaFft
namespace Go.Proofs.Ytmidpholmgmdpaa
set_option linter.unusedVariables false

/-- the value and the derivative of a polynomial with n coefficients -/
def pv (a : Nat → Int) (n : Nat) (x : Int) : Int := zsum (fun i => a i * x ^ i) n
def dv (a : Nat → Int) (n : Nat) (x : Int) : Int := zsum (fun i => a i * ((i : Int) * x ^ (i - 1))) n
theorem taylor1 (x h : Int) : ∀ i : Nat, ∃ k, (x + h) ^ i = x ^ i + (i : Int) * x ^ (i - 1) * h + h * h * k
  | 0 => ⟨0, by simp⟩
  | 1 => ⟨0, by rw [Int.pow_succ, Int.pow_zero, Int.pow_succ, Int.pow_zero]; simp⟩
  | i + 2 => by
    obtain ⟨k, hk⟩ := taylor1 x h (i + 1)
    refine ⟨k * (x + h) + ((i + 1 : Nat) : Int) * x ^ i, ?_⟩
    rw [Int.pow_succ (x + h), hk]
    rw [show i + 1 - 1 = i by omega, show i + 2 - 1 = i + 1 by omega, Int.pow_succ x (i + 1), Int.pow_succ x i]
    rw [show ((i + 2 : Nat) : Int) = ((i + 1 : Nat) : Int) + 1 by omega]
    grind
theorem taylor (a : Nat → Int) (x h : Int) : ∀ n : Nat, ∃ k, pv a n (x + h) = pv a n x + h * dv a n x + h * h * k
  | 0 => ⟨0, by simp [pv, dv, zsum]⟩
  | n + 1 => by
    obtain ⟨k, hk⟩ := taylor a x h n
    obtain ⟨k2, hk2⟩ := taylor1 x h n
    refine ⟨k + a n * k2, ?_⟩
    unfold pv dv at hk ⊢
    simp only [zsum]
    rw [hk, hk2]
    grind
theorem pv_cg {q : Nat} (a : Nat → Int) (n : Nat) {x y : Int} (h : Cg q x y) : Cg q (pv a n x) (pv a n y) := Cg.sum n fun i _ => (Cg.refl _ _).mul (h.pow i)
theorem dv_cg {q : Nat} (a : Nat → Int) (n : Nat) {x y : Int} (h : Cg q x y) : Cg q (dv a n x) (dv a n y) := Cg.sum n fun i _ => (Cg.refl _ _).mul ((Cg.refl _ _).mul (h.pow _))
/-- one step: x + t P is a root modulo P p just for one t modulo p -/
theorem step_cg {p P : Nat} (hP : p ∣ P) (a : Nat → Int) (n : Nat) (x t : Int) : Cg (P * p) (pv a n (x + t * P)) (pv a n x + t * P * dv a n x) := by
  obtain ⟨k, hk⟩ := taylor a x (t * P) n
  obtain ⟨c, hc⟩ := hP
  rw [hk]
  refine ⟨t * t * c * k, ?_⟩
  have h1 : (P : Int) = (p : Int) * (c : Int) := by rw [hc]; simp
  rw [show (((P * p : Nat) : Nat) : Int) = (P : Int) * (p : Int) by simp]
  grind
theorem cg_scale {p P : Nat} (hP : 0 < P) {x : Int} : Cg (P * p) (P * x) 0 ↔ Cg p x 0 := by
  unfold Cg
  rw [Int.sub_zero, Int.sub_zero, show (((P * p : Nat) : Nat) : Int) = (P : Int) * (p : Int) by simp]
  constructor
  · rintro ⟨c, hc⟩
    refine ⟨c, ?_⟩
    have : (P : Int) * x = (P : Int) * ((p : Int) * c) := by rw [hc]; grind
    exact Int.eq_of_mul_eq_mul_left (by omega) this
  · rintro ⟨c, hc⟩
    exact ⟨c, by rw [hc]; grind⟩
/-- two lifts of one root agree modulo P p -/
theorem lift_uniq {p P : Nat} (hp : Mr.Pr p) (hP : p ∣ P) (hP0 : 0 < P) (a : Nat → Int) (n : Nat) {x t u : Int} (hd : ¬ Cg p (dv a n x) 0)
    (h1 : Cg (P * p) (pv a n (x + t * P)) 0) (h2 : Cg (P * p) (pv a n (x + u * P)) 0) : Cg p t u := by
  have e1 := (step_cg hP a n x t).symm.trans h1
  have e2 := (step_cg hP a n x u).symm.trans h2
  have e3 := e1.sub e2
  rw [show pv a n x + t * P * dv a n x - (pv a n x + u * P * dv a n x) = P * (dv a n x * (t - u)) by grind, Int.sub_zero] at e3
  have e4 := (cg_scale hP0).1 e3
  have e5 := Cg.cancel hp e4 hd
  have := e5.add (Cg.refl p u)
  rwa [show t - u + u = t by omega, Int.zero_add] at this
/-- a lift: v = f(x) modulo P p, v = P w, and t d = -w modulo p -/
theorem lift_is {p P : Nat} (hP : p ∣ P) (hP0 : 0 < P) (a : Nat → Int) (n : Nat) {x t w : Int} (hv : Cg (P * p) (pv a n x) (P * w)) (ht : Cg p (w + t * dv a n x) 0) : Cg (P * p) (pv a n (x + t * P)) 0 := by
  refine (step_cg hP a n x t).trans ?_
  have e1 := hv.add (Cg.refl (P * p) (t * P * dv a n x))
  refine e1.trans ?_
  rw [show (P : Int) * w + t * P * dv a n x = P * (w + t * dv a n x) by grind]
  exact (cg_scale hP0).2 ht
end Go.Proofs.Ytmidpholmgmdpaa

namespace Go.Proofs.Ytmidpholmgmdpaa
open Mr

/-- the balanced residue modulo an odd number -/
def bal (q : Nat) (z : Int) : Int := if ((q / 2 : Nat) : Int) < z % (q : Int) then z % (q : Int) - q else z % (q : Int)
theorem bal_cg (q : Nat) (z : Int) : Cg q (bal q z) z := by
  unfold bal
  split
  · exact ((Cg.mod z).sub (show Cg q (q : Int) 0 from ⟨1, by omega⟩)).trans (Cg.of_eq (by omega))
  · exact Cg.mod z
theorem bal_bound {q : Nat} (hq : q % 2 = 1) (z : Int) : -((q / 2 : Nat) : Int) ≤ bal q z ∧ bal q z ≤ ((q / 2 : Nat) : Int) := by
  have h1 := Int.emod_nonneg z (show (q : Int) ≠ 0 by omega)
  have h2 := Int.emod_lt_of_pos z (show (0 : Int) < (q : Int) by omega)
  unfold bal
  split <;> omega
theorem bal_uniq {q : Nat} (hq : q % 2 = 1) {x y : Int} (h : Cg q x y) (hx : -((q / 2 : Nat) : Int) ≤ x ∧ x ≤ ((q / 2 : Nat) : Int)) (hy : -((q / 2 : Nat) : Int) ≤ y ∧ y ≤ ((q / 2 : Nat) : Int)) : x = y := by
  obtain ⟨k, hk⟩ := h
  have h0 : k = 0 := by
    rcases Int.lt_trichotomy k 0 with h1 | h1 | h1
    · have := Int.mul_le_mul_of_nonneg_left (show k ≤ -1 by omega) (show (0 : Int) ≤ (q : Int) by omega)
      omega
    · exact h1
    · have := Int.mul_le_mul_of_nonneg_left (show 1 ≤ k by omega) (show (0 : Int) ≤ (q : Int) by omega)
      omega
  rw [h0] at hk
  omega
theorem bal_of {q : Nat} (hq : q % 2 = 1) {x z : Int} (h : Cg q x z) (hx : -((q / 2 : Nat) : Int) ≤ x ∧ x ≤ ((q / 2 : Nat) : Int)) : bal q z = x :=
  bal_uniq hq ((bal_cg q z).trans h.symm) (bal_bound hq z) hx
theorem bal_congr {q : Nat} {x z : Int} (h : Cg q x z) : bal q x = bal q z := by
  have : x % (q : Int) = z % (q : Int) := by
    obtain ⟨k, hk⟩ := h
    rw [show x = z + (q : Int) * k by omega, Int.add_mul_emod_self_left]
  unfold bal
  rw [this]
theorem bal_zero (q : Nat) : bal q 0 = 0 := by
  unfold bal
  rw [Int.zero_emod, if_neg (by omega)]

/-- the dimensions of slots -/
def dim8 (n : Nat) : Prop := n = 4 ∨ n = 8 ∨ n = 16 ∨ n = 32
/-- the exponent of a slot -/
def exN (n j : Nat) : Nat := if j < n / 2 then 3 ^ j % (2 * n) else 2 * n - 3 ^ (j - n / 2) % (2 * n)
/-- the slot of an exponent -/
def atN (n k : Nat) : Nat := ((List.range n).find? fun j => exN n j == k).getD 0
theorem ex_fact {n : Nat} (h : dim8 n) : ∀ j, j < n → exN n j % 2 = 1 ∧ exN n j < 2 * n ∧ atN n (exN n j) = j := by
  rcases h with rfl | rfl | rfl | rfl <;> decide +kernel
theorem at_fact {n : Nat} (h : dim8 n) : ∀ k, k < 2 * n → k % 2 = 1 → atN n k < n ∧ exN n (atN n k) = k := by
  rcases h with rfl | rfl | rfl | rfl <;> decide +kernel
theorem ex_inj {n i j : Nat} (h : dim8 n) (hi : i < n) (hj : j < n) (he : exN n i = exN n j) : i = j := by
  rw [← (ex_fact h i hi).2.2, he, (ex_fact h j hj).2.2]
/-- what an automorphism does with the slots -/
def movN (n k j : Nat) : Nat := if j < n then atN n (exN n j * k % (2 * n)) else 0
theorem odd_mul {n i j : Nat} (hi : i % 2 = 1) (hj : j % 2 = 1) : i * j % (2 * n) % 2 = 1 := by
  rw [Nat.mod_mod_of_dvd _ ⟨n, rfl⟩, Nat.mul_mod, hi, hj]
theorem mov_fact {n k j : Nat} (h : dim8 n) (hk : k % 2 = 1) (hj : j < n) : movN n k j < n ∧ exN n (movN n k j) = exN n j * k % (2 * n) := by
  have hn : 0 < 2 * n := by unfold dim8 at h; omega
  unfold movN
  rw [if_pos hj]
  exact at_fact h _ (Nat.mod_lt _ hn) (odd_mul (ex_fact h j hj).1 hk)
/-- a sum over the slots is a sum over the odd exponents -/
theorem ex_sum {n : Nat} (h : dim8 n) (f : Nat → Int) : zsum (fun j => f (exN n j)) n = zsum (fun t => f (2 * t + 1)) n := by
  have e1 : ∀ j, j < n → f (exN n j) = zsum (fun t => if exN n j = 2 * t + 1 then f (2 * t + 1) else 0) n := fun j hj => by
    have hf := ex_fact h j hj
    rw [zsum_one (j := (exN n j - 1) / 2) n (by omega) (fun t _ ht => if_neg (by omega)), if_pos (by omega)]
    congr 1
    omega
  have e2 : ∀ t, t < n → f (2 * t + 1) = zsum (fun j => if exN n j = 2 * t + 1 then f (2 * t + 1) else 0) n := fun t ht => by
    have hf := at_fact h (2 * t + 1) (by omega) (by omega)
    rw [zsum_one (j := atN n (2 * t + 1)) n hf.1 (fun j hj hne => if_neg fun he => hne (ex_inj h hj hf.1 (by rw [hf.2, he]))), if_pos hf.2]
  rw [zsum_congr n e1, zsum_congr n e2, zsum_swap]

/-- x is a root of x^n + 1 modulo p^e -/
structure Zr (p n e x : Nat) : Prop where
  rt : Rt p n (x % p)
  e1 : 1 ≤ e
  neg : Cg (p ^ e) ((x : Int) ^ n) (-1)
theorem cg_down {p : Nat} {d e : Nat} (hd : d ≤ e) {a b : Int} (h : Cg (p ^ e) a b) : Cg (p ^ d) a b := by
  obtain ⟨k, hk⟩ := h
  refine ⟨((p ^ (e - d) : Nat) : Int) * k, ?_⟩
  rw [hk, ← Int.mul_assoc, ← Int.natCast_mul, ← Nat.pow_add, Nat.add_sub_of_le hd]
theorem cg_cancel {p e : Nat} (hp : Pr p) {x y : Int} (h : Cg (p ^ e) (x * y) 0) (hx : ¬ Cg p x 0) : Cg (p ^ e) y 0 := by
  unfold Cg at *
  rw [Int.sub_zero] at *
  have h1 : Nat.gcd p x.natAbs = 1 := hp.coprime fun hd => hx (Int.ofNat_dvd_left.2 hd)
  have h2 : Nat.gcd (p ^ e) x.natAbs = 1 := Nat.Coprime.pow_left e h1
  rw [Int.ofNat_dvd_left, Int.natAbs_mul] at h
  rw [Int.ofNat_dvd_left]
  exact Nat.Coprime.dvd_of_dvd_mul_left h2 h
namespace Zr
variable {p n e x : Nat}
theorem down (h : Zr p n e x) {d : Nat} (h1 : 1 ≤ d) (hd : d ≤ e) : Zr p n d x := ⟨h.rt, h1, cg_down hd h.neg⟩
theorem one (h : Zr p n e x) : Cg (p ^ e) ((x : Int) ^ (2 * n)) 1 := by
  have := h.neg.pow 2
  rw [← Int.pow_mul, Nat.mul_comm] at this
  simpa using this
theorem per (h : Zr p n e x) {i j : Nat} (hef : i % (2 * n) = j % (2 * n)) : Cg (p ^ e) ((x : Int) ^ i) ((x : Int) ^ j) := by
  have key : ∀ e', Cg (p ^ e) ((x : Int) ^ e') ((x : Int) ^ (e' % (2 * n))) := fun e' => by
    have h1 : (x : Int) ^ e' = ((x : Int) ^ (2 * n)) ^ (e' / (2 * n)) * (x : Int) ^ (e' % (2 * n)) := by
      rw [← Int.pow_mul, ← Int.pow_add, Nat.div_add_mod]
    rw [h1]
    have h2 := (h.one.pow (e' / (2 * n))).mul (Cg.refl (p ^ e) ((x : Int) ^ (e' % (2 * n))))
    rw [Int.one_pow, Int.one_mul] at h2
    exact h2
  have h1 := key i
  rw [hef] at h1
  exact h1.trans (key j).symm
theorem dvd_one (h : Zr p n e x) {i : Nat} (he : 2 * n ∣ i) : Cg (p ^ e) ((x : Int) ^ i) 1 := by
  have := h.per (i := i) (j := 0) (by rw [Nat.mod_eq_zero_of_dvd he, Nat.zero_mod])
  rwa [Int.pow_zero] at this
theorem not_one (h : Zr p n e x) {i : Nat} (he : ¬ 2 * n ∣ i) : ¬ Cg p ((x : Int) ^ i - 1) 0 := fun h2 => by
  refine h.rt.not_one he (Cg.trans (Cg.sub ?_ (Cg.refl p 1)) h2)
  exact (Cg.modN x).pow i
theorem geo (h : Zr p n e x) {E : Nat} (hE : 2 ∣ E) (he : ¬ 2 * n ∣ E) : Cg (p ^ e) (zsum (fun i => ((x : Int) ^ E) ^ i) n) 0 := by
  refine cg_cancel h.rt.pr ?_ (h.not_one he)
  rw [zsum_geo]
  have h1 : Cg (p ^ e) (((x : Int) ^ E) ^ n) 1 := by
    rw [← Int.pow_mul]
    obtain ⟨k, rfl⟩ := hE
    exact h.dvd_one ⟨k, by grind⟩
  have := h1.sub (Cg.refl (p ^ e) 1)
  simpa using this
theorem geo1 (h : Zr p n e x) {E : Nat} (he : 2 * n ∣ E) : Cg (p ^ e) (zsum (fun i => ((x : Int) ^ E) ^ i) n) (n : Int) := by
  have h1 := Cg.sum (q := p ^ e) (f := fun i => ((x : Int) ^ E) ^ i) (g := fun _ => 1) n fun i _ => by
    have := (h.dvd_one he).pow i
    rwa [Int.one_pow] at this
  rw [zsum_const] at h1
  simpa using h1
theorem orth (h : Zr p n e x) {k : Nat} (he : ¬ n ∣ k) : Cg (p ^ e) (zsum (fun j => (x : Int) ^ (k * (2 * j + 1))) n) 0 := by
  have e1 : zsum (fun j => (x : Int) ^ (k * (2 * j + 1))) n = (x : Int) ^ k * zsum (fun j => ((x : Int) ^ (2 * k)) ^ j) n := by
    rw [← zsum_mul_left]
    refine zsum_congr n fun j _ => ?_
    rw [← Int.pow_mul, ← Int.pow_add]
    congr 1
    grind
  rw [e1]
  have h1 := h.geo (E := 2 * k) ⟨k, rfl⟩ fun hd => he (Nat.dvd_of_mul_dvd_mul_left (by omega) hd)
  have := (Cg.refl (p ^ e) ((x : Int) ^ k)).mul h1
  rwa [Int.mul_zero] at this
theorem orth1 (h : Zr p n e x) {k : Nat} (he : 2 * n ∣ k) : Cg (p ^ e) (zsum (fun j => (x : Int) ^ (k * (2 * j + 1))) n) (n : Int) := by
  have h1 := Cg.sum (q := p ^ e) (f := fun j => (x : Int) ^ (k * (2 * j + 1))) (g := fun _ => 1) n fun j _ => h.dvd_one (Nat.dvd_trans he (Nat.dvd_mul_right k _))
  rw [zsum_const] at h1
  simpa using h1
end Zr

/-- the vector of the coefficients -/
def decZ (n x : Nat) (a : Nat → Int) (j : Nat) : Int := zsum (fun i => a i * (x : Int) ^ (i * exN n j)) n
def decF (q n x : Nat) (a : Nat → Int) (j : Nat) : Int := if j < n then bal q (decZ n x a j) else 0
/-- the coefficients of the vector -/
def encZ (n x s : Nat) (v : Nat → Int) (i : Nat) : Int := zsum (fun j => v j * (x : Int) ^ (i * (2 * n - exN n j))) n * (s : Int)
def encF (q n x s : Nat) (v : Nat → Int) (i : Nat) : Int := if i < n then bal q (encZ n x s v i) else 0
/-- a balanced list -/
def Bl (q n : Nat) (a : Nat → Int) : Prop := ∀ i, i < n → -((q / 2 : Nat) : Int) ≤ a i ∧ a i ≤ ((q / 2 : Nat) : Int)
theorem decF_bl {q n x : Nat} {a : Nat → Int} (hq : q % 2 = 1) : Bl q n (decF q n x a) := fun i hi => by
  unfold decF
  rw [if_pos hi]
  exact bal_bound hq _
theorem encF_bl {q n x s : Nat} {a : Nat → Int} (hq : q % 2 = 1) : Bl q n (encF q n x s a) := fun i hi => by
  unfold encF
  rw [if_pos hi]
  exact bal_bound hq _
theorem decZ_cg {q n x j : Nat} {a b : Nat → Int} (h : ∀ i, i < n → Cg q (a i) (b i)) : Cg q (decZ n x a j) (decZ n x b j) := Cg.sum n fun i hi => (h i hi).mul (Cg.refl q _)
theorem encZ_cg {q n x s i : Nat} {a b : Nat → Int} (h : ∀ i, i < n → Cg q (a i) (b i)) : Cg q (encZ n x s a i) (encZ n x s b i) := (Cg.sum n fun i hi => (h i hi).mul (Cg.refl q _)).mul (Cg.refl q _)
theorem decF_cg {q n x j : Nat} {a : Nat → Int} (hj : j < n) : Cg q (decF q n x a j) (decZ n x a j) := by
  unfold decF
  rw [if_pos hj]
  exact bal_cg q _
theorem encF_cg {q n x s i : Nat} {a : Nat → Int} (hi : i < n) : Cg q (encF q n x s a i) (encZ n x s a i) := by
  unfold encF
  rw [if_pos hi]
  exact bal_cg q _
theorem scale {q n s : Nat} {z y : Int} (hs : Cg q ((s : Int) * n) 1) (h : Cg q z (y * n)) : Cg q (z * s) y := by
  have h1 := h.mul (Cg.refl q (s : Int))
  have h2 := (Cg.refl q y).mul hs
  have e : y * (n : Int) * s = y * ((s : Int) * n) := by grind
  rw [e] at h1
  rw [Int.mul_one] at h2
  exact h1.trans h2

theorem enc_exp {n E l : Nat} (hE : E < 2 * n) : (l * (2 * n - E)) % (2 * n) = ((2 * n - 1) * l * E) % (2 * n) := by
  have e : l * (2 * n - E) + 2 * n * (l * E) = (2 * n - 1) * l * E + 2 * n * l := by
    obtain ⟨d, hd⟩ : ∃ d, 2 * n = E + d + 0 := ⟨2 * n - E, by omega⟩
    obtain ⟨m, hm⟩ : ∃ m, 2 * n = m + 1 := ⟨2 * n - 1, by omega⟩
    have e1 : 2 * n - E = d := by omega
    have e2 : 2 * n - 1 = m := by omega
    rw [e1, e2]
    have e3 : 2 * n * (l * E) = m * l * E + l * E := by rw [hm]; grind
    have e4 : 2 * n * l = l * E + l * d := by rw [hd]; grind
    rw [e3, e4]
    grind
  have h1 := congrArg (· % (2 * n)) e
  simpa [Nat.add_mul_mod_self_left] using h1
/-- Decode undoes Encode -/
theorem dec_enc {p n e x s : Nat} {v : Nat → Int} (hd : dim8 n) (h : Zr p n e x) (hq : p ^ e % 2 = 1) (hs : Cg (p ^ e) ((s : Int) * n) 1) (hv : Bl (p ^ e) n v) {l : Nat} (hl : l < n) : decF (p ^ e) n x (encF (p ^ e) n x s v) l = v l := by
  have hn : 0 < n := by omega
  unfold decF
  rw [if_pos hl]
  refine bal_of hq (Cg.symm ?_) (hv l hl)
  refine (decZ_cg fun i hi => encF_cg hi).trans ?_
  unfold decZ encZ
  have e1 : zsum (fun i => zsum (fun j => v j * (x : Int) ^ (i * (2 * n - exN n j))) n * (s : Int) * (x : Int) ^ (i * exN n l)) n = zsum (fun j => v j * zsum (fun i => ((x : Int) ^ (2 * n - exN n j + exN n l)) ^ i) n) n * (s : Int) := by
    rw [← zsum_mul_right]
    have e2 : ∀ i, i < n → zsum (fun j => v j * (x : Int) ^ (i * (2 * n - exN n j))) n * (s : Int) * (x : Int) ^ (i * exN n l) = zsum (fun j => v j * ((x : Int) ^ (2 * n - exN n j + exN n l)) ^ i * (s : Int)) n := fun i _ => by
      rw [← zsum_mul_right, ← zsum_mul_right]
      refine zsum_congr n fun j _ => ?_
      have : ((x : Int) ^ (2 * n - exN n j + exN n l)) ^ i = (x : Int) ^ (i * (2 * n - exN n j)) * (x : Int) ^ (i * exN n l) := by
        rw [← Int.pow_mul, ← Int.pow_add]
        congr 1
        grind
      rw [this]
      grind
    rw [zsum_congr n e2, zsum_swap]
    refine zsum_congr n fun j _ => ?_
    rw [← zsum_mul_left, ← zsum_mul_right]
  rw [e1]
  refine scale hs ?_
  have hl3 := ex_fact hd l hl
  have e3 : Cg (p ^ e) (zsum (fun j => v j * zsum (fun i => ((x : Int) ^ (2 * n - exN n j + exN n l)) ^ i) n) n) (zsum (fun j => if j = l then v j * (n : Int) else 0) n) := by
    refine Cg.sum n fun j hj => ?_
    have hj3 := ex_fact hd j hj
    by_cases hjl : j = l
    · subst hjl
      rw [if_pos rfl]
      exact (Cg.refl _ _).mul (h.geo1 ⟨1, by omega⟩)
    · rw [if_neg hjl]
      have hne : exN n j ≠ exN n l := fun he => hjl (ex_inj hd hj hl he)
      have := (Cg.refl (p ^ e) (v j)).mul (h.geo (E := 2 * n - exN n j + exN n l) (by omega) (by
        rintro ⟨c, hc⟩
        have hc0 : c ≠ 0 := fun h0 => by rw [h0] at hc; omega
        have hc2 : c < 2 := Nat.lt_of_not_le fun h2 => by
          have := Nat.mul_le_mul_left (2 * n) h2
          omega
        obtain rfl : c = 1 := by omega
        omega))
      rwa [Int.mul_zero] at this
  rw [zsum_one (j := l) n hl (fun j _ hne => if_neg hne), if_pos rfl] at e3
  exact e3
/-- Encode undoes Decode -/
theorem enc_dec {p n e x s : Nat} {a : Nat → Int} (hd : dim8 n) (h : Zr p n e x) (hq : p ^ e % 2 = 1) (hs : Cg (p ^ e) ((s : Int) * n) 1) (ha : Bl (p ^ e) n a) {l : Nat} (hl : l < n) : encF (p ^ e) n x s (decF (p ^ e) n x a) l = a l := by
  have hn : 0 < n := by omega
  unfold encF
  rw [if_pos hl]
  refine bal_of hq (Cg.symm ?_) (ha l hl)
  refine (encZ_cg fun i hi => decF_cg hi).trans ?_
  unfold decZ encZ
  refine scale hs ?_
  have e1 : zsum (fun j => zsum (fun i => a i * (x : Int) ^ (i * exN n j)) n * (x : Int) ^ (l * (2 * n - exN n j))) n = zsum (fun i => a i * zsum (fun j => (x : Int) ^ (i * exN n j + l * (2 * n - exN n j))) n) n := by
    have e2 : ∀ j, j < n → zsum (fun i => a i * (x : Int) ^ (i * exN n j)) n * (x : Int) ^ (l * (2 * n - exN n j)) = zsum (fun i => a i * (x : Int) ^ (i * exN n j + l * (2 * n - exN n j))) n := fun j _ => by
      rw [← zsum_mul_right]
      refine zsum_congr n fun i _ => ?_
      rw [Int.pow_add, Int.mul_assoc]
    rw [zsum_congr n e2, zsum_swap]
    refine zsum_congr n fun i _ => ?_
    rw [← zsum_mul_left]
  rw [e1]
  have e3 : ∀ i, i < n → Cg (p ^ e) (zsum (fun j => (x : Int) ^ (i * exN n j + l * (2 * n - exN n j))) n) (zsum (fun j => (x : Int) ^ ((i + (2 * n - 1) * l) * (2 * j + 1))) n) := fun i _ => by
    refine Cg.trans (Cg.sum (g := fun j => (x : Int) ^ ((i + (2 * n - 1) * l) * exN n j)) n fun j hj => h.per ?_) (Cg.of_eq (ex_sum hd fun k => (x : Int) ^ ((i + (2 * n - 1) * l) * k)))
    have hj3 := ex_fact hd j hj
    rw [Nat.add_mul, Nat.add_mod, enc_exp hj3.2.1, ← Nat.add_mod]
  have e4 : Cg (p ^ e) (zsum (fun i => a i * zsum (fun j => (x : Int) ^ (i * exN n j + l * (2 * n - exN n j))) n) n) (zsum (fun i => if i = l then a i * (n : Int) else 0) n) := by
    refine Cg.sum n fun i hi => ?_
    have hmod := mod_2n hi hl
    by_cases hil : i = l
    · rw [if_pos hil]
      exact (Cg.refl _ _).mul ((e3 i hi).trans (h.orth1 (hmod.2 hil)))
    · rw [if_neg hil]
      have := (Cg.refl (p ^ e) (a i)).mul ((e3 i hi).trans (h.orth fun hc => hil (hmod.1 hc)))
      rwa [Int.mul_zero] at this
  rw [zsum_one (j := l) n hl (fun i _ hne => if_neg hne), if_pos rfl] at e4
  exact e4
end Go.Proofs.Ytmidpholmgmdpaa
