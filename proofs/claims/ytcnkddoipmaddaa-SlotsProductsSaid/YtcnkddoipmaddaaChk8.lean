/- The slots in plain words: balanced residues, the order of the odd exponents, and that the two transforms undo each other modulo a power of p. -/
/- The slots in memory; the contracts of check, residue and balanced. -/
import Derived.Test.YtcnkddoipmaddaaDeg7
import Derived.Test.YtcnkddoipmaddaaLawsZ
namespace Go.Proofs.Ytcnkddoipmaddaa
open Mr

/-- the balanced residue modulo an odd number -/
def bal (q : Nat) (z : Int) : Int := if ((q / 2 : Nat) : Int) < z % (q : Int) then z % (q : Int) - q else z % (q : Int)
theorem bal_cg (q : Nat) (z : Int) : Cg q (bal q z) z := by
  unfold bal
  split
  · exact ((Cg.mod z).sub (show Cg q (q : Int) 0 from ⟨1, by omega⟩)).trans (Cg.of_eq (by omega))
  · exact Cg.mod z
theorem bal_bound {q : Nat} (hq : q % 2 = 1) (z : Int) : -((q / 2 : Nat) : Int) ≤ bal q z ∧ bal q z ≤ ((q / 2 : Nat) : Int) := by
  have h1 := Int.emod_nonneg z (show (q : Int) ≠ 0 by omega)
  have h2 := Int.emod_lt_of_pos z (show (0 : Int) < (q : Int) by omega)
  unfold bal
  split <;> omega
theorem bal_uniq {q : Nat} (hq : q % 2 = 1) {x y : Int} (h : Cg q x y) (hx : -((q / 2 : Nat) : Int) ≤ x ∧ x ≤ ((q / 2 : Nat) : Int)) (hy : -((q / 2 : Nat) : Int) ≤ y ∧ y ≤ ((q / 2 : Nat) : Int)) : x = y := by
  obtain ⟨k, hk⟩ := h
  have h0 : k = 0 := by
    rcases Int.lt_trichotomy k 0 with h1 | h1 | h1
    · have := Int.mul_le_mul_of_nonneg_left (show k ≤ -1 by omega) (show (0 : Int) ≤ (q : Int) by omega)
      omega
    · exact h1
    · have := Int.mul_le_mul_of_nonneg_left (show 1 ≤ k by omega) (show (0 : Int) ≤ (q : Int) by omega)
      omega
  rw [h0] at hk
  omega
theorem bal_of {q : Nat} (hq : q % 2 = 1) {x z : Int} (h : Cg q x z) (hx : -((q / 2 : Nat) : Int) ≤ x ∧ x ≤ ((q / 2 : Nat) : Int)) : bal q z = x :=
  bal_uniq hq ((bal_cg q z).trans h.symm) (bal_bound hq z) hx
theorem bal_congr {q : Nat} {x z : Int} (h : Cg q x z) : bal q x = bal q z := by
  have : x % (q : Int) = z % (q : Int) := by
    obtain ⟨k, hk⟩ := h
    rw [show x = z + (q : Int) * k by omega, Int.add_mul_emod_self_left]
  unfold bal
  rw [this]
theorem bal_zero (q : Nat) : bal q 0 = 0 := by
  unfold bal
  rw [Int.zero_emod, if_neg (by omega)]

/-- the dimensions of slots -/
def dim8 (n : Nat) : Prop := n = 4 ∨ n = 8 ∨ n = 16 ∨ n = 32
/-- the exponent of a slot -/
def exN (n j : Nat) : Nat := if j < n / 2 then 3 ^ j % (2 * n) else 2 * n - 3 ^ (j - n / 2) % (2 * n)
/-- the slot of an exponent -/
def atN (n k : Nat) : Nat := ((List.range n).find? fun j => exN n j == k).getD 0
theorem ex_fact {n : Nat} (h : dim8 n) : ∀ j, j < n → exN n j % 2 = 1 ∧ exN n j < 2 * n ∧ atN n (exN n j) = j := by
  rcases h with rfl | rfl | rfl | rfl <;> decide +kernel
theorem at_fact {n : Nat} (h : dim8 n) : ∀ k, k < 2 * n → k % 2 = 1 → atN n k < n ∧ exN n (atN n k) = k := by
  rcases h with rfl | rfl | rfl | rfl <;> decide +kernel
theorem ex_inj {n i j : Nat} (h : dim8 n) (hi : i < n) (hj : j < n) (he : exN n i = exN n j) : i = j := by
  rw [← (ex_fact h i hi).2.2, he, (ex_fact h j hj).2.2]
/-- what an automorphism does with the slots -/
def movN (n k j : Nat) : Nat := if j < n then atN n (exN n j * k % (2 * n)) else 0
theorem odd_mul {n i j : Nat} (hi : i % 2 = 1) (hj : j % 2 = 1) : i * j % (2 * n) % 2 = 1 := by
  rw [Nat.mod_mod_of_dvd _ ⟨n, rfl⟩, Nat.mul_mod, hi, hj]
theorem mov_fact {n k j : Nat} (h : dim8 n) (hk : k % 2 = 1) (hj : j < n) : movN n k j < n ∧ exN n (movN n k j) = exN n j * k % (2 * n) := by
  have hn : 0 < 2 * n := by unfold dim8 at h; omega
  unfold movN
  rw [if_pos hj]
  exact at_fact h _ (Nat.mod_lt _ hn) (odd_mul (ex_fact h j hj).1 hk)
/-- a sum over the slots is a sum over the odd exponents -/
theorem ex_sum {n : Nat} (h : dim8 n) (f : Nat → Int) : zsum (fun j => f (exN n j)) n = zsum (fun t => f (2 * t + 1)) n := by
  have e1 : ∀ j, j < n → f (exN n j) = zsum (fun t => if exN n j = 2 * t + 1 then f (2 * t + 1) else 0) n := fun j hj => by
    have hf := ex_fact h j hj
    rw [zsum_one (j := (exN n j - 1) / 2) n (by omega) (fun t _ ht => if_neg (by omega)), if_pos (by omega)]
    congr 1
    omega
  have e2 : ∀ t, t < n → f (2 * t + 1) = zsum (fun j => if exN n j = 2 * t + 1 then f (2 * t + 1) else 0) n := fun t ht => by
    have hf := at_fact h (2 * t + 1) (by omega) (by omega)
    rw [zsum_one (j := atN n (2 * t + 1)) n hf.1 (fun j hj hne => if_neg fun he => hne (ex_inj h hj hf.1 (by rw [hf.2, he]))), if_pos hf.2]
  rw [zsum_congr n e1, zsum_congr n e2, zsum_swap]

/-- x is a root of x^n + 1 modulo p^e -/
structure Zr (p n e x : Nat) : Prop where
  rt : Rt p n (x % p)
  e1 : 1 ≤ e
  neg : Cg (p ^ e) ((x : Int) ^ n) (-1)
theorem cg_down {p : Nat} {d e : Nat} (hd : d ≤ e) {a b : Int} (h : Cg (p ^ e) a b) : Cg (p ^ d) a b := by
  obtain ⟨k, hk⟩ := h
  refine ⟨((p ^ (e - d) : Nat) : Int) * k, ?_⟩
  rw [hk, ← Int.mul_assoc, ← Int.natCast_mul, ← Nat.pow_add, Nat.add_sub_of_le hd]
theorem cg_cancel {p e : Nat} (hp : Pr p) {x y : Int} (h : Cg (p ^ e) (x * y) 0) (hx : ¬ Cg p x 0) : Cg (p ^ e) y 0 := by
  unfold Cg at *
  rw [Int.sub_zero] at *
  have h1 : Nat.gcd p x.natAbs = 1 := hp.coprime fun hd => hx (Int.ofNat_dvd_left.2 hd)
  have h2 : Nat.gcd (p ^ e) x.natAbs = 1 := Nat.Coprime.pow_left e h1
  rw [Int.ofNat_dvd_left, Int.natAbs_mul] at h
  rw [Int.ofNat_dvd_left]
  exact Nat.Coprime.dvd_of_dvd_mul_left h2 h
namespace Zr
variable {p n e x : Nat}
theorem down (h : Zr p n e x) {d : Nat} (h1 : 1 ≤ d) (hd : d ≤ e) : Zr p n d x := ⟨h.rt, h1, cg_down hd h.neg⟩
theorem one (h : Zr p n e x) : Cg (p ^ e) ((x : Int) ^ (2 * n)) 1 := by
  have := h.neg.pow 2
  rw [← Int.pow_mul, Nat.mul_comm] at this
  simpa using this
theorem per (h : Zr p n e x) {i j : Nat} (hef : i % (2 * n) = j % (2 * n)) : Cg (p ^ e) ((x : Int) ^ i) ((x : Int) ^ j) := by
  have key : ∀ e', Cg (p ^ e) ((x : Int) ^ e') ((x : Int) ^ (e' % (2 * n))) := fun e' => by
    have h1 : (x : Int) ^ e' = ((x : Int) ^ (2 * n)) ^ (e' / (2 * n)) * (x : Int) ^ (e' % (2 * n)) := by
      rw [← Int.pow_mul, ← Int.pow_add, Nat.div_add_mod]
    rw [h1]
    have h2 := (h.one.pow (e' / (2 * n))).mul (Cg.refl (p ^ e) ((x : Int) ^ (e' % (2 * n))))
    rw [Int.one_pow, Int.one_mul] at h2
    exact h2
  have h1 := key i
  rw [hef] at h1
  exact h1.trans (key j).symm
theorem dvd_one (h : Zr p n e x) {i : Nat} (he : 2 * n ∣ i) : Cg (p ^ e) ((x : Int) ^ i) 1 := by
  have := h.per (i := i) (j := 0) (by rw [Nat.mod_eq_zero_of_dvd he, Nat.zero_mod])
  rwa [Int.pow_zero] at this
theorem not_one (h : Zr p n e x) {i : Nat} (he : ¬ 2 * n ∣ i) : ¬ Cg p ((x : Int) ^ i - 1) 0 := fun h2 => by
  refine h.rt.not_one he (Cg.trans (Cg.sub ?_ (Cg.refl p 1)) h2)
  exact (Cg.modN x).pow i
theorem geo (h : Zr p n e x) {E : Nat} (hE : 2 ∣ E) (he : ¬ 2 * n ∣ E) : Cg (p ^ e) (zsum (fun i => ((x : Int) ^ E) ^ i) n) 0 := by
  refine cg_cancel h.rt.pr ?_ (h.not_one he)
  rw [zsum_geo]
  have h1 : Cg (p ^ e) (((x : Int) ^ E) ^ n) 1 := by
    rw [← Int.pow_mul]
    obtain ⟨k, rfl⟩ := hE
    exact h.dvd_one ⟨k, by grind⟩
  have := h1.sub (Cg.refl (p ^ e) 1)
  simpa using this
theorem geo1 (h : Zr p n e x) {E : Nat} (he : 2 * n ∣ E) : Cg (p ^ e) (zsum (fun i => ((x : Int) ^ E) ^ i) n) (n : Int) := by
  have h1 := Cg.sum (q := p ^ e) (f := fun i => ((x : Int) ^ E) ^ i) (g := fun _ => 1) n fun i _ => by
    have := (h.dvd_one he).pow i
    rwa [Int.one_pow] at this
  rw [zsum_const] at h1
  simpa using h1
theorem orth (h : Zr p n e x) {k : Nat} (he : ¬ n ∣ k) : Cg (p ^ e) (zsum (fun j => (x : Int) ^ (k * (2 * j + 1))) n) 0 := by
  have e1 : zsum (fun j => (x : Int) ^ (k * (2 * j + 1))) n = (x : Int) ^ k * zsum (fun j => ((x : Int) ^ (2 * k)) ^ j) n := by
    rw [← zsum_mul_left]
    refine zsum_congr n fun j _ => ?_
    rw [← Int.pow_mul, ← Int.pow_add]
    congr 1
    grind
  rw [e1]
  have h1 := h.geo (E := 2 * k) ⟨k, rfl⟩ fun hd => he (Nat.dvd_of_mul_dvd_mul_left (by omega) hd)
  have := (Cg.refl (p ^ e) ((x : Int) ^ k)).mul h1
  rwa [Int.mul_zero] at this
theorem orth1 (h : Zr p n e x) {k : Nat} (he : 2 * n ∣ k) : Cg (p ^ e) (zsum (fun j => (x : Int) ^ (k * (2 * j + 1))) n) (n : Int) := by
  have h1 := Cg.sum (q := p ^ e) (f := fun j => (x : Int) ^ (k * (2 * j + 1))) (g := fun _ => 1) n fun j _ => h.dvd_one (Nat.dvd_trans he (Nat.dvd_mul_right k _))
  rw [zsum_const] at h1
  simpa using h1
end Zr

/-- the vector of the coefficients -/
def decZ (n x : Nat) (a : Nat → Int) (j : Nat) : Int := zsum (fun i => a i * (x : Int) ^ (i * exN n j)) n
def decF (q n x : Nat) (a : Nat → Int) (j : Nat) : Int := if j < n then bal q (decZ n x a j) else 0
/-- the coefficients of the vector -/
def encZ (n x s : Nat) (v : Nat → Int) (i : Nat) : Int := zsum (fun j => v j * (x : Int) ^ (i * (2 * n - exN n j))) n * (s : Int)
def encF (q n x s : Nat) (v : Nat → Int) (i : Nat) : Int := if i < n then bal q (encZ n x s v i) else 0
/-- a balanced list -/
def Bl (q n : Nat) (a : Nat → Int) : Prop := ∀ i, i < n → -((q / 2 : Nat) : Int) ≤ a i ∧ a i ≤ ((q / 2 : Nat) : Int)
theorem decF_bl {q n x : Nat} {a : Nat → Int} (hq : q % 2 = 1) : Bl q n (decF q n x a) := fun i hi => by
  unfold decF
  rw [if_pos hi]
  exact bal_bound hq _
theorem encF_bl {q n x s : Nat} {a : Nat → Int} (hq : q % 2 = 1) : Bl q n (encF q n x s a) := fun i hi => by
  unfold encF
  rw [if_pos hi]
  exact bal_bound hq _
theorem decZ_cg {q n x j : Nat} {a b : Nat → Int} (h : ∀ i, i < n → Cg q (a i) (b i)) : Cg q (decZ n x a j) (decZ n x b j) := Cg.sum n fun i hi => (h i hi).mul (Cg.refl q _)
theorem encZ_cg {q n x s i : Nat} {a b : Nat → Int} (h : ∀ i, i < n → Cg q (a i) (b i)) : Cg q (encZ n x s a i) (encZ n x s b i) := (Cg.sum n fun i hi => (h i hi).mul (Cg.refl q _)).mul (Cg.refl q _)
theorem decF_cg {q n x j : Nat} {a : Nat → Int} (hj : j < n) : Cg q (decF q n x a j) (decZ n x a j) := by
  unfold decF
  rw [if_pos hj]
  exact bal_cg q _
theorem encF_cg {q n x s i : Nat} {a : Nat → Int} (hi : i < n) : Cg q (encF q n x s a i) (encZ n x s a i) := by
  unfold encF
  rw [if_pos hi]
  exact bal_cg q _
theorem scale {q n s : Nat} {z y : Int} (hs : Cg q ((s : Int) * n) 1) (h : Cg q z (y * n)) : Cg q (z * s) y := by
  have h1 := h.mul (Cg.refl q (s : Int))
  have h2 := (Cg.refl q y).mul hs
  have e : y * (n : Int) * s = y * ((s : Int) * n) := by grind
  rw [e] at h1
  rw [Int.mul_one] at h2
  exact h1.trans h2

theorem enc_exp {n E l : Nat} (hE : E < 2 * n) : (l * (2 * n - E)) % (2 * n) = ((2 * n - 1) * l * E) % (2 * n) := by
  have e : l * (2 * n - E) + 2 * n * (l * E) = (2 * n - 1) * l * E + 2 * n * l := by
    obtain ⟨d, hd⟩ : ∃ d, 2 * n = E + d + 0 := ⟨2 * n - E, by omega⟩
    obtain ⟨m, hm⟩ : ∃ m, 2 * n = m + 1 := ⟨2 * n - 1, by omega⟩
    have e1 : 2 * n - E = d := by omega
    have e2 : 2 * n - 1 = m := by omega
    rw [e1, e2]
    have e3 : 2 * n * (l * E) = m * l * E + l * E := by rw [hm]; grind
    have e4 : 2 * n * l = l * E + l * d := by rw [hd]; grind
    rw [e3, e4]
    grind
  have h1 := congrArg (· % (2 * n)) e
  simpa [Nat.add_mul_mod_self_left] using h1
/-- Decode undoes Encode -/
theorem dec_enc {p n e x s : Nat} {v : Nat → Int} (hd : dim8 n) (h : Zr p n e x) (hq : p ^ e % 2 = 1) (hs : Cg (p ^ e) ((s : Int) * n) 1) (hv : Bl (p ^ e) n v) {l : Nat} (hl : l < n) : decF (p ^ e) n x (encF (p ^ e) n x s v) l = v l := by
  have hn : 0 < n := by omega
  unfold decF
  rw [if_pos hl]
  refine bal_of hq (Cg.symm ?_) (hv l hl)
  refine (decZ_cg fun i hi => encF_cg hi).trans ?_
  unfold decZ encZ
  have e1 : zsum (fun i => zsum (fun j => v j * (x : Int) ^ (i * (2 * n - exN n j))) n * (s : Int) * (x : Int) ^ (i * exN n l)) n = zsum (fun j => v j * zsum (fun i => ((x : Int) ^ (2 * n - exN n j + exN n l)) ^ i) n) n * (s : Int) := by
    rw [← zsum_mul_right]
    have e2 : ∀ i, i < n → zsum (fun j => v j * (x : Int) ^ (i * (2 * n - exN n j))) n * (s : Int) * (x : Int) ^ (i * exN n l) = zsum (fun j => v j * ((x : Int) ^ (2 * n - exN n j + exN n l)) ^ i * (s : Int)) n := fun i _ => by
      rw [← zsum_mul_right, ← zsum_mul_right]
      refine zsum_congr n fun j _ => ?_
      have : ((x : Int) ^ (2 * n - exN n j + exN n l)) ^ i = (x : Int) ^ (i * (2 * n - exN n j)) * (x : Int) ^ (i * exN n l) := by
        rw [← Int.pow_mul, ← Int.pow_add]
        congr 1
        grind
      rw [this]
      grind
    rw [zsum_congr n e2, zsum_swap]
    refine zsum_congr n fun j _ => ?_
    rw [← zsum_mul_left, ← zsum_mul_right]
  rw [e1]
  refine scale hs ?_
  have hl3 := ex_fact hd l hl
  have e3 : Cg (p ^ e) (zsum (fun j => v j * zsum (fun i => ((x : Int) ^ (2 * n - exN n j + exN n l)) ^ i) n) n) (zsum (fun j => if j = l then v j * (n : Int) else 0) n) := by
    refine Cg.sum n fun j hj => ?_
    have hj3 := ex_fact hd j hj
    by_cases hjl : j = l
    · subst hjl
      rw [if_pos rfl]
      exact (Cg.refl _ _).mul (h.geo1 ⟨1, by omega⟩)
    · rw [if_neg hjl]
      have hne : exN n j ≠ exN n l := fun he => hjl (ex_inj hd hj hl he)
      have := (Cg.refl (p ^ e) (v j)).mul (h.geo (E := 2 * n - exN n j + exN n l) (by omega) (by
        rintro ⟨c, hc⟩
        have hc0 : c ≠ 0 := fun h0 => by rw [h0] at hc; omega
        have hc2 : c < 2 := Nat.lt_of_not_le fun h2 => by
          have := Nat.mul_le_mul_left (2 * n) h2
          omega
        obtain rfl : c = 1 := by omega
        omega))
      rwa [Int.mul_zero] at this
  rw [zsum_one (j := l) n hl (fun j _ hne => if_neg hne), if_pos rfl] at e3
  exact e3
/-- Encode undoes Decode -/
theorem enc_dec {p n e x s : Nat} {a : Nat → Int} (hd : dim8 n) (h : Zr p n e x) (hq : p ^ e % 2 = 1) (hs : Cg (p ^ e) ((s : Int) * n) 1) (ha : Bl (p ^ e) n a) {l : Nat} (hl : l < n) : encF (p ^ e) n x s (decF (p ^ e) n x a) l = a l := by
  have hn : 0 < n := by omega
  unfold encF
  rw [if_pos hl]
  refine bal_of hq (Cg.symm ?_) (ha l hl)
  refine (encZ_cg fun i hi => decF_cg hi).trans ?_
  unfold decZ encZ
  refine scale hs ?_
  have e1 : zsum (fun j => zsum (fun i => a i * (x : Int) ^ (i * exN n j)) n * (x : Int) ^ (l * (2 * n - exN n j))) n = zsum (fun i => a i * zsum (fun j => (x : Int) ^ (i * exN n j + l * (2 * n - exN n j))) n) n := by
    have e2 : ∀ j, j < n → zsum (fun i => a i * (x : Int) ^ (i * exN n j)) n * (x : Int) ^ (l * (2 * n - exN n j)) = zsum (fun i => a i * (x : Int) ^ (i * exN n j + l * (2 * n - exN n j))) n := fun j _ => by
      rw [← zsum_mul_right]
      refine zsum_congr n fun i _ => ?_
      rw [Int.pow_add, Int.mul_assoc]
    rw [zsum_congr n e2, zsum_swap]
    refine zsum_congr n fun i _ => ?_
    rw [← zsum_mul_left]
  rw [e1]
  have e3 : ∀ i, i < n → Cg (p ^ e) (zsum (fun j => (x : Int) ^ (i * exN n j + l * (2 * n - exN n j))) n) (zsum (fun j => (x : Int) ^ ((i + (2 * n - 1) * l) * (2 * j + 1))) n) := fun i _ => by
    refine Cg.trans (Cg.sum (g := fun j => (x : Int) ^ ((i + (2 * n - 1) * l) * exN n j)) n fun j hj => h.per ?_) (Cg.of_eq (ex_sum hd fun k => (x : Int) ^ ((i + (2 * n - 1) * l) * k)))
    have hj3 := ex_fact hd j hj
    rw [Nat.add_mul, Nat.add_mod, enc_exp hj3.2.1, ← Nat.add_mod]
  have e4 : Cg (p ^ e) (zsum (fun i => a i * zsum (fun j => (x : Int) ^ (i * exN n j + l * (2 * n - exN n j))) n) n) (zsum (fun i => if i = l then a i * (n : Int) else 0) n) := by
    refine Cg.sum n fun i hi => ?_
    have hmod := mod_2n hi hl
    by_cases hil : i = l
    · rw [if_pos hil]
      exact (Cg.refl _ _).mul ((e3 i hi).trans (h.orth1 (hmod.2 hil)))
    · rw [if_neg hil]
      have := (Cg.refl (p ^ e) (a i)).mul ((e3 i hi).trans (h.orth fun hc => hil (hmod.1 hc)))
      rwa [Int.mul_zero] at this
  rw [zsum_one (j := l) n hl (fun i _ hne => if_neg hne), if_pos rfl] at e4
  exact e4
end Go.Proofs.Ytcnkddoipmaddaa

namespace Go.Proofs.Ytcnkddoipmaddaa
open Go.RowKit
set_option linter.unusedVariables false

theorem below_c {B g i : Nat} {W W' : World} (hb : Below B W W') (hg : g < B) : W'.cell? ⟨g, i, none⟩ = W.cell? ⟨g, i, none⟩ := hb.cell hg
/-- the slots at block b -/
structure Sl (W : World) (lo b n p R x : Nat) : Prop where
  cN : W.cell? ⟨b, 0, none⟩ = some (.int .i64 (n : Int))
  cP : W.cell? ⟨b, 1, none⟩ = some (.int .u32 (p : Int))
  pw : ∃ g c, W.cell? ⟨b, 2, none⟩ = some (.slice (some ⟨g, 0, none⟩) (R + 1) c) ∧ lo ≤ g ∧ g < W.heap.size ∧ ∀ i, i ≤ R → W.cell? ⟨g, i, none⟩ = some (.int .u64 ((p ^ i : Nat) : Int))
  zt : ∃ g c, W.cell? ⟨b, 3, none⟩ = some (.slice (some ⟨g, 0, none⟩) (2 * n) c) ∧ lo ≤ g ∧ g < W.heap.size ∧ ∀ i, i < 2 * n → W.cell? ⟨g, i, none⟩ = some (.int .u64 ((x ^ i % p ^ R : Nat) : Int))
  ex : ∀ j, j < n → W.cell? ⟨b, 4 + j, none⟩ = some (.int .i64 ((exN n j : Nat) : Int))
  lob : lo ≤ b
  lt : b < W.heap.size
theorem Sl.below {W W' : World} {lo b n p R x B : Nat} (h : Sl W lo b n p R x) (hb : Below B W W') (hB : W.heap.size ≤ B) : Sl W' lo b n p R x := by
  have hz := hb.size
  have hlt := h.lt
  obtain ⟨g, c, h1, h2, h3, h4⟩ := h.pw
  obtain ⟨g', c', h1', h2', h3', h4'⟩ := h.zt
  exact ⟨(below_c hb (by omega)).trans h.cN, (below_c hb (by omega)).trans h.cP, ⟨g, c, (below_c hb (by omega)).trans h1, h2, by omega, fun i hi => (below_c hb (by omega)).trans (h4 i hi)⟩, ⟨g', c', (below_c hb (by omega)).trans h1', h2', by omega, fun i hi => (below_c hb (by omega)).trans (h4' i hi)⟩,
    fun j hj => (below_c hb (by omega)).trans (h.ex j hj), h.lob, by omega⟩

/-- Go's rest of a division by a positive number -/
theorem tm_fact (y : Int) {m : Nat} (hm : 0 < m) : ∃ t, y.tmod (m : Int) = t ∧ -(m : Int) < t ∧ t < (m : Int) ∧ Cg m t y := by
  refine ⟨_, rfl, ?_, ?_, ?_⟩
  · exact Int.lt_tmod_of_pos y (by omega)
  · exact Int.tmod_lt_of_pos y (by omega)
  · refine ⟨-(y.tdiv m), ?_⟩
    have := Int.mul_tdiv_add_tmod y m
    grind
theorem cg_emod {m : Nat} (hm : 0 < m) {x y : Int} (h : Cg m x y) : x % (m : Int) = y % (m : Int) := by
  obtain ⟨k, hk⟩ := h
  rw [show x = y + (m : Int) * k by omega, Int.add_mul_emod_self_left]

theorem residue_any (b g E R c q r : Nat) (y : Int) (w : World) (k2 : w.cell? ⟨b, 2, none⟩ = some (.slice (some ⟨g, 0, none⟩) (R + 1) c)) (k3 : w.cell? ⟨g, E, none⟩ = some (.int .u64 (q : Int))) (hE : E ≤ R) (hq2 : 2 ≤ q) (hq : q ≤ 2147483647) (hr : (r : Int) = y % (q : Int)) :
    Calls Try.prog 32 #[.pointer (some ⟨b, 0, none⟩), .int .i64 y, .int .i64 (E : Int)] w (RetP w (.int .u64 (r : Int))) := by
  obtain ⟨t, ht, t1, t2, t3⟩ := tm_fact y (m := q) (by omega)
  have hrb : r < q := by have := Int.emod_lt_of_pos y (show (0 : Int) < q by omega); omega
  have hu : (t + (q : Int)).tmod (q : Int) = (r : Int) := by
    rw [Int.tmod_eq_emod_of_nonneg (by omega), hr]
    refine cg_emod (by omega) ?_
    exact (t3.add (show Cg q (q : Int) 0 from ⟨1, by omega⟩)).trans (Cg.of_eq (by omega))
  have hq0 : ¬ q = 0 := by omega
  have hE2 : E < R + 1 := by omega
  clear t3 hr
  go_enter Try.func32, Try.ntmps32
  go_wp2
  go_ret
  exact ⟨rfl, rfl⟩

theorem balanced_any (b g E R c q y : Nat) (w : World) (k2 : w.cell? ⟨b, 2, none⟩ = some (.slice (some ⟨g, 0, none⟩) (R + 1) c)) (k3 : w.cell? ⟨g, E, none⟩ = some (.int .u64 (q : Int))) (hE : E ≤ R) (hq2 : 2 ≤ q) (hq : q ≤ 2147483647) (hy : y < q) :
    Calls Try.prog 33 #[.pointer (some ⟨b, 0, none⟩), .int .u64 (y : Int), .int .i64 (E : Int)] w (RetP w (.int .i64 (bal q (y : Int)))) := by
  have hE2 : E < R + 1 := by omega
  have hmod : (y : Int) % (q : Int) = (y : Int) := Int.emod_eq_of_lt (by omega) (by omega)
  obtain ⟨h, hh⟩ : ∃ h, q / 2 = h := ⟨_, rfl⟩
  have hht : (q : Int).tdiv 2 = (h : Int) := by rw [Int.tdiv_eq_ediv_of_nonneg (by omega)]; omega
  have hhd : (q : Int) / 2 = (h : Int) := by omega
  by_cases hc : h < y
  · have e1 : decide ((y : Int) > (h : Int)) = true := decide_eq_true (by omega)
    have e2 : decide (h < y) = true := decide_eq_true hc
    have HE : Hid (bal q (y : Int) = (y : Int) - (q : Int)) := Lib.hid (by unfold bal; rw [hmod, if_pos (by omega)])
    clear hh
    go_enter Try.func33, Try.ntmps33
    go_wp2
    go_ret
    exact ⟨by rw [HE.out]; rfl, rfl⟩
  · have e1 : decide ((y : Int) > (h : Int)) = false := decide_eq_false (by omega)
    have e2 : decide (h < y) = false := decide_eq_false hc
    have HE : Hid (bal q (y : Int) = (y : Int)) := Lib.hid (by unfold bal; rw [hmod, if_neg (by omega)])
    clear hh
    go_enter Try.func33, Try.ntmps33
    go_wp2
    go_ret
    exact ⟨by rw [HE.out]; rfl, rfl⟩

/-- what a list must be for an exponent -/
def VOk (n p R : Nat) (m : Nat) (a : Nat → Int) (E : Int) : Prop := 1 ≤ E ∧ E ≤ R ∧ m = n ∧ Bl (p ^ E.toNat) n a
/-- 0 if so, and what else -/
def RetE (w : World) (P : Prop) (k : Int) (e : Ending) (w' : World) : Prop := w = w' ∧ ((P ∧ e = .returned (.int .i64 0)) ∨ (¬ P ∧ e = .returned (.int .i64 k)))

theorem check_nil (l E : Value) (w : World) : Calls Try.prog 30 #[.pointer none, l, E] w (RetP w (.int .i64 1)) := by
  go_enter Try.func30, Try.ntmps30
  go_wp2
  go_ret
  exact ⟨rfl, rfl⟩
theorem check_zero (b : Nat) (l E : Value) (w : World) (h : w.cell? ⟨b, 0, none⟩ = some (.int .i64 0)) : Calls Try.prog 30 #[.pointer (some ⟨b, 0, none⟩), l, E] w (RetP w (.int .i64 1)) := by
  go_enter Try.func30, Try.ntmps30
  go_wp2
  go_ret
  exact ⟨rfl, rfl⟩

set_option maxRecDepth 100000 in
set_option maxHeartbeats 2000000 in
theorem check_any (lo b n p R x m c lo' hi : Nat) (E : Int) (A : Option Addr) (a : Nat → Int) (w : World) (h : Sl w lo b n p R x) (hn : 1 ≤ n) (hn2 : n ≤ 32) (hR : R ≤ 40) (hp : 2 ≤ p) (hpR : p ^ R ≤ 2147483647) (ha : Z.Sq .i64 w lo' hi A m a) (hm : m ≤ 9223372036854775807) :
    Calls Try.prog 30 #[.pointer (some ⟨b, 0, none⟩), .slice A m c, .int .i64 E] w (RetE w (VOk n p R m a E) 2) := by
  have k0 := h.cN
  obtain ⟨g, cg, k2, _, _, kp⟩ := h.pw
  have HA := Lib.hid ha
  have HKP := Lib.hid kp
  have hn0 : ¬ n = 0 := by omega
  have f0 : ((n : Int) == 0) = false := by simp; omega
  clear h ha kp
  by_cases h0 : 1 ≤ E ∧ E ≤ R ∧ m = n
  rotate_left
  · have HN : Hid (¬ VOk n p R m a E) := Lib.hid fun h2 => h0 ⟨h2.1, h2.2.1, h2.2.2.1⟩
    have hc : E < 1 ∨ (1 ≤ E ∧ R < E) ∨ (1 ≤ E ∧ E ≤ R ∧ m ≠ n) := by omega
    clear h0
    rcases hc with h1 | ⟨h1, h2⟩ | ⟨h1, h2, h3⟩
    all_goals
      try first
        | have d1 : decide (E < 1) = true := decide_eq_true (by omega)
        | have d1 : decide (E < 1) = false := decide_eq_false (by omega)
      try first
        | have d2 : decide (E ≥ ((R : Int) + 1)) = true := decide_eq_true (by omega)
        | have d2 : decide (E ≥ ((R : Int) + 1)) = false := decide_eq_false (by omega)
      try first
        | have d4 : decide ((R : Int) + 1 ≤ E) = true := decide_eq_true (by omega)
        | have d4 : decide ((R : Int) + 1 ≤ E) = false := decide_eq_false (by omega)
      try have d3 : ((m : Int) != (n : Int)) = true := by simp; omega
      go_enter Try.func30, Try.ntmps30
      go_wp2
      go_ret
      exact ⟨rfl, .inr ⟨HN.out, rfl⟩⟩
  obtain ⟨h1, h2, rfl⟩ := h0
  obtain ⟨e, rfl⟩ : ∃ e : Nat, E = (e : Int) := ⟨E.toNat, by omega⟩
  have d1 : decide ((e : Int) < 1) = false := decide_eq_false (by omega)
  have d2 : decide ((e : Int) ≥ ((R : Int) + 1)) = false := decide_eq_false (by omega)
  have d4 : decide ((R : Int) + 1 ≤ (e : Int)) = false := decide_eq_false (by omega)
  have d3 : ((m : Int) != (m : Int)) = false := by simp
  obtain ⟨q, hq⟩ : ∃ q, p ^ e = q := ⟨_, rfl⟩
  have hqb : q ≤ 2147483647 := by
    have := Nat.pow_le_pow_right (show 0 < p by omega) (show e ≤ R by omega)
    omega
  have k3 := HKP.out e (by omega)
  rw [hq] at k3
  have he2 : e < R + 1 := by omega
  obtain ⟨hf, hhf⟩ : ∃ hf, q / 2 = hf := ⟨_, rfl⟩
  have hht : (q : Int).tdiv 2 = (hf : Int) := by rw [Int.tdiv_eq_ediv_of_nonneg (by omega)]; omega
  have hhd : (q : Int) / 2 = (hf : Int) := by omega
  have HVOK : Hid ((∀ i, i < m → -(hf : Int) ≤ a i ∧ a i ≤ (hf : Int)) → VOk m p R m a (e : Int)) := Lib.hid fun hh => ⟨by omega, by omega, rfl, by rw [Int.toNat_natCast, hq]; unfold Bl; rw [hhf]; exact hh⟩
  have HVNO : Hid (∀ i, i < m → ¬ (-(hf : Int) ≤ a i ∧ a i ≤ (hf : Int)) → ¬ VOk m p R m a (e : Int)) := Lib.hid fun i hi hno hv => hno (by
    have h5 := hv.2.2.2 i hi
    rw [Int.toNat_natCast, hq, hhf] at h5
    exact h5)
  have hfb : hf ≤ 1073741823 := by omega
  clear hq hhf h1 h2
  go_enter Try.func30, Try.ntmps30
  go_wp2
  go_loop [54] (fun I => ∃ i : Nat, I = .int .i64 (i : Int) ∧ i ≤ m ∧ ∀ j, j < i → -(hf : Int) ≤ a j ∧ a j ≤ (hf : Int)) (fun I => m - (intOf I).toNat)
  case atStart => exact ⟨0, rfl, Nat.zero_le _, fun j hj => by omega⟩
  case round =>
    obtain ⟨i, rfl, him, hall⟩ := hrel
    have HALL := Lib.hid hall
    clear hall
    by_cases hlt : i < m
    · have e1 : decide ((i : Int) < (m : Int)) = true := decide_eq_true (by omega)
      obtain ⟨gg, off, hAe, _, hgl, hcell⟩ := HA.out.2 (by omega)
      have k1 := hcell i hlt
      obtain ⟨y, hy⟩ : ∃ y, a i = y := ⟨_, rfl⟩
      rw [hy] at k1
      rw [hAe]
      have b1 : 0 ≤ (i : Int) := by omega
      have b2 : (i : Int) < (m : Int) := by omega
      by_cases hin : -(hf : Int) ≤ y ∧ y ≤ (hf : Int)
      · have e3 : decide (y < -(hf : Int)) = false := decide_eq_false (by omega)
        have e4 : decide (y > (hf : Int)) = false := decide_eq_false (by omega)
        have e5 : decide ((hf : Int) < y) = false := decide_eq_false (by omega)
        have HNX : Hid (∀ j, j < i + 1 → -(hf : Int) ≤ a j ∧ a j ≤ (hf : Int)) := Lib.hid fun j hj => by
          rcases Nat.lt_or_eq_of_le (Nat.le_of_lt_succ hj) with h5 | h5
          · exact HALL.out j h5
          · rw [h5, hy]; exact hin
        clear hcell hy hAe hin
        go_wp2
        go_round
        case rel => exact ⟨i + 1, by go_num, hlt, HNX.out⟩
        case measure => simp only [intOf]; omega
      · have HN := Lib.hid (HVNO.out i hlt (by rw [hy]; exact hin))
        have hc : y < -(hf : Int) ∨ (-(hf : Int) ≤ y ∧ (hf : Int) < y) := by omega
        clear hcell hy hAe hin
        rcases hc with h5 | ⟨h5, h6⟩
        · have e3 : decide (y < -(hf : Int)) = true := decide_eq_true (by omega)
          go_wp2
          go_ret
          exact ⟨rfl, .inr ⟨HN.out, rfl⟩⟩
        · have e3 : decide (y < -(hf : Int)) = false := decide_eq_false (by omega)
          have e4 : decide (y > (hf : Int)) = true := decide_eq_true (by omega)
          have e5 : decide ((hf : Int) < y) = true := decide_eq_true (by omega)
          go_wp2
          go_ret
          exact ⟨rfl, .inr ⟨HN.out, rfl⟩⟩
    · obtain rfl : m = i := by omega
      have e1 : decide ((m : Int) < (m : Int)) = false := decide_eq_false (by omega)
      have HV := Lib.hid (HVOK.out HALL.out)
      go_wp2
      go_ret
      exact ⟨rfl, .inl ⟨HV.out, rfl⟩⟩
end Go.Proofs.Ytcnkddoipmaddaa
