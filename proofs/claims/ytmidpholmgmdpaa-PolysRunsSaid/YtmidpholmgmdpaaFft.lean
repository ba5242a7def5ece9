/- Plain: sums of integers and congruence; the transform modulo a prime: it is undone by its inverse, it is computed by halves, and it turns products modulo x^n + 1 into products. No program in sight. -/
import Derived.Test.YtmidpholmgmdpaaAlg
import Derived.Test.YtmidpholmgmdpaaOrd
namespace Go.Proofs.Ytmidpholmgmdpaa
set_option linter.unusedVariables false
/-- the sum of f i for i below n -/
def zsum (f : Nat → Int) : Nat → Int
  | 0 => 0
  | n + 1 => zsum f n + f n
theorem zsum_congr {f g : Nat → Int} : ∀ n, (∀ i, i < n → f i = g i) → zsum f n = zsum g n
  | 0, _ => rfl
  | n + 1, h => by unfold zsum; rw [zsum_congr n fun i hi => h i (by omega), h n (by omega)]
theorem zsum_zero {f : Nat → Int} : ∀ n, (∀ i, i < n → f i = 0) → zsum f n = 0
  | 0, _ => rfl
  | n + 1, h => by unfold zsum; rw [zsum_zero n fun i hi => h i (by omega), h n (by omega)]; rfl
theorem zsum_add (f g : Nat → Int) : ∀ n, zsum (fun i => f i + g i) n = zsum f n + zsum g n
  | 0 => rfl
  | n + 1 => by unfold zsum; rw [zsum_add f g n]; omega
theorem zsum_sub (f g : Nat → Int) : ∀ n, zsum (fun i => f i - g i) n = zsum f n - zsum g n
  | 0 => rfl
  | n + 1 => by unfold zsum; rw [zsum_sub f g n]; omega
theorem zsum_mul_left (c : Int) (f : Nat → Int) : ∀ n, zsum (fun i => c * f i) n = c * zsum f n
  | 0 => (Int.mul_zero c).symm
  | n + 1 => by unfold zsum; rw [zsum_mul_left c f n, Int.mul_add]
theorem zsum_mul_right (c : Int) (f : Nat → Int) : ∀ n, zsum (fun i => f i * c) n = zsum f n * c
  | 0 => (Int.zero_mul c).symm
  | n + 1 => by unfold zsum; rw [zsum_mul_right c f n, Int.add_mul]
theorem zsum_const (c : Int) : ∀ n : Nat, zsum (fun _ => c) n = n * c
  | 0 => by unfold zsum; simp
  | n + 1 => by unfold zsum; rw [zsum_const c n]; grind
theorem zsum_swap (f : Nat → Nat → Int) (m : Nat) : ∀ n, zsum (fun i => zsum (f i) m) n = zsum (fun j => zsum (fun i => f i j) n) m
  | 0 => (zsum_zero m fun _ _ => rfl).symm
  | n + 1 => by
    show zsum (fun i => zsum (f i) m) n + zsum (f n) m = zsum (fun j => zsum (fun i => f i j) n + f n j) m
    rw [zsum_swap f m n, ← zsum_add]
theorem zsum_cast (f : Nat → Nat) : ∀ n, ((sumN f n : Nat) : Int) = zsum (fun i => ((f i : Nat) : Int)) n
  | 0 => rfl
  | n + 1 => by unfold sumN zsum; rw [Int.natCast_add, zsum_cast f n]
theorem zsum_one {f : Nat → Int} {j : Nat} : ∀ n, j < n → (∀ i, i < n → i ≠ j → f i = 0) → zsum f n = f j
  | 0, h, _ => absurd h (Nat.not_lt_zero j)
  | n + 1, h, hz => by
    unfold zsum
    by_cases e : j = n
    · subst e
      rw [zsum_zero j fun i hi => hz i (by omega) (by omega), Int.zero_add]
    · rw [zsum_one n (by omega) (fun i hi he => hz i (by omega) he), hz n (by omega) (fun h => e h.symm), Int.add_zero]
theorem zsum_more (f : Nat → Int) (n : Nat) : ∀ k, zsum f (n + k) = zsum f n + zsum (fun i => f (n + i)) k
  | 0 => by unfold zsum; simp
  | k + 1 => by
    show zsum f (n + k) + f (n + k) = zsum f n + (zsum (fun i => f (n + i)) k + f (n + k))
    rw [zsum_more f n k]; omega
/-- the even ones and the odd ones -/
theorem zsum_two (f : Nat → Int) : ∀ h, zsum f (2 * h) = zsum (fun i => f (2 * i)) h + zsum (fun i => f (2 * i + 1)) h
  | 0 => rfl
  | h + 1 => by
    rw [show 2 * (h + 1) = 2 * h + 1 + 1 by omega]
    show zsum f (2 * h) + f (2 * h) + f (2 * h + 1) = zsum (fun i => f (2 * i)) h + f (2 * h) + (zsum (fun i => f (2 * i + 1)) h + f (2 * h + 1))
    rw [zsum_two f h]; omega
/-- the geometric sum -/
theorem zsum_geo (y : Int) : ∀ n, (y - 1) * zsum (fun i => y ^ i) n = y ^ n - 1
  | 0 => by unfold zsum; simp
  | n + 1 => by unfold zsum; rw [Int.mul_add, zsum_geo y n]; grind

/-- congruent modulo q -/
def Cg (q : Nat) (a b : Int) : Prop := (q : Int) ∣ a - b
namespace Cg
variable {q : Nat} {a b c d : Int}
theorem refl (q : Nat) (a : Int) : Cg q a a := by unfold Cg; rw [Int.sub_self]; exact Int.dvd_zero _
theorem of_eq (h : a = b) : Cg q a b := by rw [h]; exact refl q b
theorem symm (h : Cg q a b) : Cg q b a := by
  obtain ⟨k, hk⟩ := h
  exact ⟨-k, by grind⟩
theorem trans (h : Cg q a b) (h2 : Cg q b c) : Cg q a c := by
  obtain ⟨k, hk⟩ := h
  obtain ⟨l, hl⟩ := h2
  exact ⟨k + l, by grind⟩
theorem add (h : Cg q a b) (h2 : Cg q c d) : Cg q (a + c) (b + d) := by
  obtain ⟨k, hk⟩ := h
  obtain ⟨l, hl⟩ := h2
  exact ⟨k + l, by grind⟩
theorem sub (h : Cg q a b) (h2 : Cg q c d) : Cg q (a - c) (b - d) := by
  obtain ⟨k, hk⟩ := h
  obtain ⟨l, hl⟩ := h2
  exact ⟨k - l, by grind⟩
theorem neg (h : Cg q a b) : Cg q (-a) (-b) := by
  obtain ⟨k, hk⟩ := h
  exact ⟨-k, by grind⟩
theorem mul (h : Cg q a b) (h2 : Cg q c d) : Cg q (a * c) (b * d) := by
  obtain ⟨k, hk⟩ := h
  obtain ⟨l, hl⟩ := h2
  exact ⟨k * c + b * l, by grind⟩
theorem pow (h : Cg q a b) : ∀ n : Nat, Cg q (a ^ n) (b ^ n)
  | 0 => by rw [Int.pow_zero, Int.pow_zero]; exact refl q 1
  | n + 1 => by rw [Int.pow_succ, Int.pow_succ]; exact (pow h n).mul h
theorem sum {f g : Nat → Int} : ∀ n, (∀ i, i < n → Cg q (f i) (g i)) → Cg q (zsum f n) (zsum g n)
  | 0, _ => refl q 0
  | n + 1, h => (sum n fun i hi => h i (by omega)).add (h n (by omega))
theorem mod (a : Int) : Cg q (a % (q : Int)) a := ⟨-(a / q), by have := Int.mul_ediv_add_emod a q; grind⟩
theorem modN (a : Nat) : Cg q ((a % q : Nat) : Int) (a : Int) := by rw [Int.natCast_emod]; exact mod _
theorem nat {a b : Nat} : Cg q (a : Int) (b : Int) ↔ a % q = b % q := by
  unfold Cg
  rw [Int.dvd_iff_emod_eq_zero, ← Int.emod_eq_emod_iff_emod_sub_eq_zero, ← Int.natCast_emod, ← Int.natCast_emod]
  exact Int.ofNat_inj
theorem eq_nat {a b : Nat} (h : Cg q (a : Int) (b : Int)) (ha : a < q) (hb : b < q) : a = b := by
  have := nat.1 h
  rwa [Nat.mod_eq_of_lt ha, Nat.mod_eq_of_lt hb] at this
/-- a residue that is congruent to z -/
theorem mod_of {a b : Nat} (h : Cg q (a : Int) (b : Int)) (hb : b < q) : a % q = b := by
  rw [nat.1 h, Nat.mod_eq_of_lt hb]
theorem cancel {x y : Int} (hq : Mr.Pr q) (h : Cg q (x * y) 0) (hx : ¬ Cg q x 0) : Cg q y 0 := by
  unfold Cg at *
  rw [Int.sub_zero] at *
  rcases dvd_mul_int hq h with h1 | h1
  · exact absurd h1 hx
  · exact h1
theorem powN (a : Nat) (k : Nat) : Cg q ((a ^ k % q : Nat) : Int) ((a : Int) ^ k) := by
  have := modN (q := q) (a ^ k)
  rwa [Int.natCast_pow] at this
end Cg
theorem U_cg {q a e : Nat} : Mr.U q a e ↔ Cg q ((a : Int) ^ e) 1 := by
  rw [← Int.natCast_pow]
  exact Cg.nat.symm

/-- psi is a root of order 2 n modulo a prime -/
structure Rt (q n ψ : Nat) : Prop where
  pr : Mr.Pr q
  n0 : 0 < n
  ord : Ordr q ψ (2 * n)
namespace Rt
variable {q n ψ : Nat}
theorem one (h : Rt q n ψ) : Cg q ((ψ : Int) ^ (2 * n)) 1 := U_cg.1 h.ord.2.1
theorem neg (h : Rt q n ψ) : Cg q ((ψ : Int) ^ n) (-1) := by
  obtain ⟨y, hy⟩ : ∃ y : Int, (ψ : Int) ^ n = y := ⟨_, rfl⟩
  have h1 := h.one
  rw [Nat.mul_comm, Int.pow_mul, hy] at h1
  have h2 : ¬ Cg q (y - 1) 0 := fun h2 => by
    have h3 : Cg q ((ψ : Int) ^ n) 1 := by
      have := h2.add (Cg.refl q 1)
      rw [hy]
      simpa using this
    have h4 := h.ord.2.2 n (U_cg.2 h3)
    have := Nat.le_of_dvd h.n0 h4
    have := h.n0
    omega
  have h3 : Cg q ((y - 1) * (y + 1)) 0 := by
    have : (y - 1) * (y + 1) = y ^ 2 - 1 := by grind
    rw [this]
    have := h1.sub (Cg.refl q 1)
    simpa using this
  have h4 := Cg.cancel h.pr h3 h2
  rw [hy]
  have := h4.add (Cg.refl q (-1))
  have e : y + 1 + -1 = y := by omega
  rw [e] at this
  simpa using this
theorem per (h : Rt q n ψ) {e f : Nat} (hef : e % (2 * n) = f % (2 * n)) : Cg q ((ψ : Int) ^ e) ((ψ : Int) ^ f) := by
  have key : ∀ e : Nat, Cg q ((ψ : Int) ^ e) ((ψ : Int) ^ (e % (2 * n))) := fun e => by
    have h1 : (ψ : Int) ^ e = ((ψ : Int) ^ (2 * n)) ^ (e / (2 * n)) * (ψ : Int) ^ (e % (2 * n)) := by
      rw [← Int.pow_mul, ← Int.pow_add, Nat.div_add_mod]
    rw [h1]
    have h2 := (h.one.pow (e / (2 * n))).mul (Cg.refl q ((ψ : Int) ^ (e % (2 * n))))
    rw [Int.one_pow, Int.one_mul] at h2
    exact h2
  have h1 := key e
  rw [hef] at h1
  exact h1.trans (key f).symm
theorem not_one (h : Rt q n ψ) {e : Nat} (he : ¬ 2 * n ∣ e) : ¬ Cg q ((ψ : Int) ^ e - 1) 0 := fun h2 => by
  have h3 : Cg q ((ψ : Int) ^ e) 1 := by
    have := h2.add (Cg.refl q 1)
    simpa using this
  exact he (h.ord.2.2 e (U_cg.2 h3))
theorem dvd_one (h : Rt q n ψ) {e : Nat} (he : 2 * n ∣ e) : Cg q ((ψ : Int) ^ e) 1 := by
  have := h.per (e := e) (f := 0) (by rw [Nat.mod_eq_zero_of_dvd he, Nat.zero_mod])
  rwa [Int.pow_zero] at this
theorem geo (h : Rt q n ψ) {E : Nat} (hE : 2 ∣ E) (he : ¬ 2 * n ∣ E) : Cg q (zsum (fun i => ((ψ : Int) ^ E) ^ i) n) 0 := by
  refine Cg.cancel h.pr ?_ (h.not_one he)
  rw [zsum_geo]
  have h1 : Cg q (((ψ : Int) ^ E) ^ n) 1 := by
    rw [← Int.pow_mul]
    obtain ⟨k, rfl⟩ := hE
    exact h.dvd_one ⟨k, by grind⟩
  have := h1.sub (Cg.refl q 1)
  simpa using this
theorem geo1 (h : Rt q n ψ) {E : Nat} (he : 2 * n ∣ E) : Cg q (zsum (fun i => ((ψ : Int) ^ E) ^ i) n) (n : Int) := by
  have h1 := Cg.sum (q := q) (f := fun i => ((ψ : Int) ^ E) ^ i) (g := fun _ => 1) n fun i _ => by
    have := (h.dvd_one he).pow i
    rwa [Int.one_pow] at this
  rw [zsum_const] at h1
  simpa using h1
theorem orth (h : Rt q n ψ) {e : Nat} (he : ¬ n ∣ e) : Cg q (zsum (fun j => (ψ : Int) ^ (e * (2 * j + 1))) n) 0 := by
  have e1 : zsum (fun j => (ψ : Int) ^ (e * (2 * j + 1))) n = (ψ : Int) ^ e * zsum (fun j => ((ψ : Int) ^ (2 * e)) ^ j) n := by
    rw [← zsum_mul_left]
    refine zsum_congr n fun j _ => ?_
    rw [← Int.pow_mul, ← Int.pow_add]
    congr 1
    grind
  rw [e1]
  have h1 := h.geo (E := 2 * e) ⟨e, rfl⟩ fun hd => he (Nat.dvd_of_mul_dvd_mul_left (by omega) hd)
  have := (Cg.refl q ((ψ : Int) ^ e)).mul h1
  rwa [Int.mul_zero] at this
theorem orth1 (h : Rt q n ψ) {e : Nat} (he : 2 * n ∣ e) : Cg q (zsum (fun j => (ψ : Int) ^ (e * (2 * j + 1))) n) (n : Int) := by
  have h1 := Cg.sum (q := q) (f := fun j => (ψ : Int) ^ (e * (2 * j + 1))) (g := fun _ => 1) n fun j _ => h.dvd_one (Nat.dvd_trans he (Nat.dvd_mul_right e _))
  rw [zsum_const] at h1
  simpa using h1
/-- the odd powers are roots of x^n + 1 -/
theorem place (h : Rt q n ψ) (j : Nat) : Cg q (((ψ : Int) ^ (2 * j + 1)) ^ n) (-1) := by
  have h1 := h.neg.pow (2 * j + 1)
  rw [← Int.pow_mul, Nat.mul_comm, Int.pow_mul]
  have h2 : (-1 : Int) ^ (2 * j + 1) = -1 := by rw [Int.pow_succ, Int.pow_mul]; simp [Int.one_pow]
  rwa [h2] at h1
end Rt

/-- the transform, and what undoes it (s: the inverse of n) -/
def fwd (q n ψ : Nat) (a : Nat → Nat) (j : Nat) : Nat := if j < n then sumN (fun i => a i * ψ ^ (i * (2 * j + 1))) n % q else 0
def ivs (q n ψ s : Nat) (a : Nat → Nat) (i : Nat) : Nat := if i < n then sumN (fun j => a j * ψ ^ ((2 * n - 1) * i * (2 * j + 1))) n % q * s % q else 0
theorem fwd_out {q n ψ j : Nat} {a : Nat → Nat} (h : n ≤ j) : fwd q n ψ a j = 0 := if_neg (by omega)
theorem ivs_out {q n ψ s j : Nat} {a : Nat → Nat} (h : n ≤ j) : ivs q n ψ s a j = 0 := if_neg (by omega)
theorem fwd_lt {q n ψ : Nat} {a : Nat → Nat} (hq : 0 < q) (j : Nat) : fwd q n ψ a j < q := by
  unfold fwd
  split
  · exact Nat.mod_lt _ hq
  · exact hq
theorem ivs_lt {q n ψ s : Nat} {a : Nat → Nat} (hq : 0 < q) (j : Nat) : ivs q n ψ s a j < q := by
  unfold ivs
  split
  · exact Nat.mod_lt _ hq
  · exact hq
theorem fwd_cg {q n ψ j : Nat} {a : Nat → Nat} (h : j < n) : Cg q ((fwd q n ψ a j : Nat) : Int) (zsum (fun i => (a i : Int) * (ψ : Int) ^ (i * (2 * j + 1))) n) := by
  unfold fwd
  rw [if_pos h]
  refine (Cg.modN _).trans (Cg.of_eq ?_)
  rw [zsum_cast]
  exact zsum_congr n fun i _ => by rw [Int.natCast_mul, Int.natCast_pow]
theorem ivs_cg {q n ψ s i : Nat} {a : Nat → Nat} (h : i < n) : Cg q ((ivs q n ψ s a i : Nat) : Int) (zsum (fun j => (a j : Int) * (ψ : Int) ^ ((2 * n - 1) * i * (2 * j + 1))) n * (s : Int)) := by
  unfold ivs
  rw [if_pos h]
  refine (Cg.modN _).trans ?_
  rw [Int.natCast_mul]
  refine Cg.mul ((Cg.modN _).trans (Cg.of_eq ?_)) (Cg.refl q _)
  rw [zsum_cast]
  exact zsum_congr n fun j _ => by rw [Int.natCast_mul, Int.natCast_pow]

theorem mod_2n {n i k : Nat} (hi : i < n) (hk : k < n) : (n ∣ i + (2 * n - 1) * k → i = k) ∧ (i = k → 2 * n ∣ i + (2 * n - 1) * k) := by
  have e : i + (2 * n - 1) * k + k = i + 2 * n * k := by
    rw [show i + (2 * n - 1) * k + k = i + ((2 * n - 1) * k + 1 * k) by omega, ← Nat.add_mul, show 2 * n - 1 + 1 = 2 * n by omega]
  refine ⟨fun ⟨c, hc⟩ => ?_, fun h => ⟨k, by subst h; omega⟩⟩
  rw [hc] at e
  -- n * c + k = i + 2 * n * k
  have h1 : (n * c + k) % n = k := by rw [Nat.mul_add_mod]; exact Nat.mod_eq_of_lt hk
  rw [e, Nat.add_comm, show 2 * n * k = n * (2 * k) by grind, Nat.mul_add_mod, Nat.mod_eq_of_lt hi] at h1
  exact h1

theorem ivs_fwd {q n ψ s : Nat} {a : Nat → Nat} (h : Rt q n ψ) (hs : Cg q ((s : Int) * n) 1) (ha : ∀ j, j < n → a j < q) {k : Nat} (hk : k < n) : ivs q n ψ s (fwd q n ψ a) k = a k := by
  refine Cg.eq_nat ?_ (ivs_lt (by have := h.pr.1; omega) k) (ha k hk)
  refine (ivs_cg hk).trans ?_
  have h1 : Cg q (zsum (fun j => ((fwd q n ψ a j : Nat) : Int) * (ψ : Int) ^ ((2 * n - 1) * k * (2 * j + 1))) n) (zsum (fun j => zsum (fun i => (a i : Int) * (ψ : Int) ^ ((i + (2 * n - 1) * k) * (2 * j + 1))) n) n) := by
    refine Cg.sum n fun j hj => ((fwd_cg hj).mul (Cg.refl q _)).trans (Cg.of_eq ?_)
    rw [← zsum_mul_right]
    refine zsum_congr n fun i _ => ?_
    rw [Int.mul_assoc, ← Int.pow_add]
    congr 2
    grind
  refine ((h1.trans ?_).mul (Cg.refl q (s : Int))).trans (b := (a k : Int) * (n : Int) * (s : Int)) ?_
  · rw [zsum_swap]
    have h2 : Cg q (zsum (fun i => zsum (fun j => (a i : Int) * (ψ : Int) ^ ((i + (2 * n - 1) * k) * (2 * j + 1))) n) n) (zsum (fun i => if i = k then (a k : Int) * (n : Int) else 0) n) := by
      refine Cg.sum n fun i hi => ?_
      rw [zsum_mul_left]
      by_cases e : i = k
      · rw [if_pos e, ← e]
        exact (Cg.refl q _).mul (h.orth1 ((mod_2n hi hk).2 e |> fun x => by rw [← e] at x; exact x))
      · rw [if_neg e]
        have := (Cg.refl q (a i : Int)).mul (h.orth fun hd => e ((mod_2n hi hk).1 hd))
        rwa [Int.mul_zero] at this
    refine h2.trans (Cg.of_eq ?_)
    rw [zsum_one (j := k) n hk fun i _ he => if_neg he, if_pos rfl]
  · have := (Cg.refl q (a k : Int)).mul hs
    rw [Int.mul_one] at this
    refine Cg.trans (Cg.of_eq ?_) this
    grind
theorem fwd_ivs {q n ψ s : Nat} {a : Nat → Nat} (h : Rt q n ψ) (hs : Cg q ((s : Int) * n) 1) (ha : ∀ j, j < n → a j < q) {l : Nat} (hl : l < n) : fwd q n ψ (ivs q n ψ s a) l = a l := by
  refine Cg.eq_nat ?_ (fwd_lt (by have := h.pr.1; omega) l) (ha l hl)
  refine (fwd_cg hl).trans ?_
  have h1 : Cg q (zsum (fun i => ((ivs q n ψ s a i : Nat) : Int) * (ψ : Int) ^ (i * (2 * l + 1))) n) (zsum (fun i => zsum (fun j => (a j : Int) * (s : Int) * ((ψ : Int) ^ (2 * l + 1 + (2 * n - 1) * (2 * j + 1))) ^ i) n) n) := by
    refine Cg.sum n fun i hi => ((ivs_cg hi).mul (Cg.refl q _)).trans (Cg.of_eq ?_)
    rw [Int.mul_assoc, ← zsum_mul_right]
    refine zsum_congr n fun j _ => ?_
    rw [← Int.pow_mul, show (2 * l + 1 + (2 * n - 1) * (2 * j + 1)) * i = (2 * n - 1) * i * (2 * j + 1) + i * (2 * l + 1) by grind, Int.pow_add]
    grind
  refine h1.trans ?_
  rw [zsum_swap]
  have key : ∀ j, j < n → (2 * n ∣ 2 * l + 1 + (2 * n - 1) * (2 * j + 1) ↔ j = l) := fun j hj => by
    have e : 2 * l + 1 + (2 * n - 1) * (2 * j + 1) + 2 * j = 2 * l + 2 * n * (2 * j + 1) := by
      have : (2 * n - 1) * (2 * j + 1) + 1 * (2 * j + 1) = 2 * n * (2 * j + 1) := by rw [← Nat.add_mul, show 2 * n - 1 + 1 = 2 * n by omega]
      omega
    constructor
    · rintro ⟨c, hc⟩
      rw [hc] at e
      have h1 : (2 * n * c + 2 * j) % (2 * n) = 2 * j := by rw [Nat.mul_add_mod]; exact Nat.mod_eq_of_lt (by omega)
      rw [e, Nat.add_comm, Nat.mul_add_mod, Nat.mod_eq_of_lt (by omega)] at h1
      omega
    · intro he
      subst he
      exact ⟨2 * j + 1, by omega⟩
  have h2 : Cg q (zsum (fun j => zsum (fun i => (a j : Int) * (s : Int) * ((ψ : Int) ^ (2 * l + 1 + (2 * n - 1) * (2 * j + 1))) ^ i) n) n) (zsum (fun j => if j = l then (a l : Int) * (s : Int) * (n : Int) else 0) n) := by
    refine Cg.sum n fun j hj => ?_
    rw [zsum_mul_left]
    by_cases e : j = l
    · rw [if_pos e]
      have h3 := h.geo1 ((key j hj).2 e)
      rw [← e]
      rw [← e] at h3
      exact (Cg.refl q _).mul h3
    · rw [if_neg e]
      have h4 : 2 ∣ 2 * l + 1 + (2 * n - 1) * (2 * j + 1) := by
        have := h.n0
        exact ⟨l + j + (2 * n - 1) * j + n - j, by
          have e1 : (2 * n - 1) * (2 * j + 1) = 2 * ((2 * n - 1) * j) + (2 * n - 1) := by grind
          omega⟩
      have := (Cg.refl q ((a j : Int) * (s : Int))).mul (h.geo h4 fun hd => e ((key j hj).1 hd))
      rwa [Int.mul_zero] at this
  refine h2.trans ?_
  rw [zsum_one (j := l) n hl fun j _ he => if_neg he, if_pos rfl]
  have := (Cg.refl q (a l : Int)).mul hs
  rw [Int.mul_one] at this
  exact Cg.trans (Cg.of_eq (by grind)) this
/-- the sums that the recursion computes -/
def cyF (q ω step m : Nat) (a : Nat → Nat) (j : Nat) : Nat := sumN (fun i => a i * ω ^ (2 * step * i * j)) m % q
theorem cyF_lt {q ω step m : Nat} {a : Nat → Nat} (hq : 0 < q) (j : Nat) : cyF q ω step m a j < q := Nat.mod_lt _ hq
theorem cyF_cg {q ω step m j : Nat} {a : Nat → Nat} : Cg q ((cyF q ω step m a j : Nat) : Int) (zsum (fun i => (a i : Int) * (ω : Int) ^ (2 * step * i * j)) m) := by
  unfold cyF
  refine (Cg.modN _).trans (Cg.of_eq ?_)
  rw [zsum_cast]
  exact zsum_congr m fun i _ => by rw [Int.natCast_mul, Int.natCast_pow]
theorem cyF_one {q ω step j : Nat} {a : Nat → Nat} (ha : a 0 < q) : cyF q ω step 1 a j = a 0 := by
  unfold cyF
  show (0 + a 0 * ω ^ (2 * step * 0 * j)) % q = a 0
  simp
  exact Nat.mod_eq_of_lt ha
/-- what is multiplied to the odd half -/
def cyX (q ω step h : Nat) (a : Nat → Nat) (j : Nat) : Nat := cyF q ω (2 * step) h (fun i => a (2 * i + 1)) j * (ω ^ (2 * step * j) % q) % q
theorem cyX_cg {q ω step h j : Nat} {a : Nat → Nat} : Cg q ((cyX q ω step h a j : Nat) : Int) (zsum (fun i => (a (2 * i + 1) : Int) * (ω : Int) ^ (2 * step * (2 * i + 1) * j)) h) := by
  unfold cyX
  refine (Cg.modN _).trans ?_
  rw [Int.natCast_mul]
  refine (cyF_cg.mul (Cg.powN ω (2 * step * j))).trans (Cg.of_eq ?_)
  rw [← zsum_mul_right]
  refine zsum_congr h fun i _ => ?_
  rw [Int.mul_assoc, ← Int.pow_add]
  congr 2
  grind
theorem cyF_low {q ω step h j : Nat} {a : Nat → Nat} (hq : 0 < q) : cyF q ω step (2 * h) a j = (cyF q ω (2 * step) h (fun i => a (2 * i)) j + cyX q ω step h a j) % q := by
  refine Cg.eq_nat ?_ (cyF_lt hq j) (Nat.mod_lt _ hq)
  refine Cg.trans ?_ (Cg.modN _).symm
  rw [Int.natCast_add]
  refine cyF_cg.trans ?_
  rw [zsum_two]
  refine (Cg.add ?_ cyX_cg).symm
  refine cyF_cg.trans (Cg.of_eq ?_)
  refine zsum_congr h fun i _ => ?_
  congr 2
  grind
theorem cyF_high {q ω step h j : Nat} {a : Nat → Nat} (hq : 0 < q) (hw : Cg q ((ω : Int) ^ (step * (2 * h))) (-1)) : cyF q ω step (2 * h) a (j + h) = (cyF q ω (2 * step) h (fun i => a (2 * i)) j + q - cyX q ω step h a j) % q := by
  have hx : cyX q ω step h a j < q := Nat.mod_lt _ hq
  refine Cg.eq_nat ?_ (cyF_lt hq _) (Nat.mod_lt _ hq)
  refine Cg.trans ?_ (Cg.modN _).symm
  rw [Int.ofNat_sub (by omega), Int.natCast_add]
  refine cyF_cg.trans ?_
  rw [zsum_two]
  have hodd : ∀ i : Nat, (-1 : Int) ^ (2 * i + 1) = -1 := fun i => by rw [Int.pow_succ, Int.pow_mul]; simp [Int.one_pow]
  have heven : ∀ i : Nat, (-1 : Int) ^ (2 * i) = 1 := fun i => by rw [Int.pow_mul]; simp [Int.one_pow]
  have h1 : Cg q (zsum (fun i => ((a (2 * i) : Nat) : Int) * (ω : Int) ^ (2 * step * (2 * i) * (j + h))) h) ((cyF q ω (2 * step) h (fun i => a (2 * i)) j : Nat) : Int) := by
    refine Cg.trans ?_ cyF_cg.symm
    refine Cg.sum h fun i _ => (Cg.refl q _).mul ?_
    have e : (ω : Int) ^ (2 * step * (2 * i) * (j + h)) = (ω : Int) ^ (2 * (2 * step) * i * j) * ((ω : Int) ^ (step * (2 * h))) ^ (2 * i) := by
      rw [← Int.pow_mul, ← Int.pow_add]
      congr 1
      grind
    rw [e]
    have := (Cg.refl q ((ω : Int) ^ (2 * (2 * step) * i * j))).mul (hw.pow (2 * i))
    rwa [heven, Int.mul_one] at this
  have h2 : Cg q (zsum (fun i => ((a (2 * i + 1) : Nat) : Int) * (ω : Int) ^ (2 * step * (2 * i + 1) * (j + h))) h) (-((cyX q ω step h a j : Nat) : Int)) := by
    refine Cg.trans ?_ cyX_cg.neg.symm
    have e0 : -zsum (fun i => ((a (2 * i + 1) : Nat) : Int) * (ω : Int) ^ (2 * step * (2 * i + 1) * j)) h = zsum (fun i => -1 * (((a (2 * i + 1) : Nat) : Int) * (ω : Int) ^ (2 * step * (2 * i + 1) * j))) h := by
      rw [zsum_mul_left]; omega
    rw [e0]
    refine Cg.sum h fun i _ => ?_
    have e : (ω : Int) ^ (2 * step * (2 * i + 1) * (j + h)) = (ω : Int) ^ (2 * step * (2 * i + 1) * j) * ((ω : Int) ^ (step * (2 * h))) ^ (2 * i + 1) := by
      rw [← Int.pow_mul, ← Int.pow_add]
      congr 1
      grind
    rw [e]
    have := (Cg.refl q (((a (2 * i + 1) : Nat) : Int) * (ω : Int) ^ (2 * step * (2 * i + 1) * j))).mul (hw.pow (2 * i + 1))
    rw [hodd] at this
    refine Cg.trans (Cg.of_eq ?_) (this.trans (Cg.of_eq ?_))
    · rw [Int.mul_assoc]
    · omega
  have h3 := h1.add h2
  refine h3.trans ?_
  refine ⟨-1, by omega⟩

/-- Forward, by halves -/
theorem fwd_cyF {q n ψ j : Nat} {a x : Nat → Nat} (hq : 0 < q) (hj : j < n) (hx : ∀ i, i < n → x i = a i * (ψ ^ i % q) % q) : cyF q ψ 1 n x j = fwd q n ψ a j := by
  refine Cg.eq_nat ?_ (cyF_lt hq j) (fwd_lt hq j)
  refine (cyF_cg.trans ?_).trans (fwd_cg hj).symm
  refine Cg.sum n fun i hi => ?_
  rw [hx i hi]
  have h1 : Cg q ((a i * (ψ ^ i % q) % q : Nat) : Int) ((a i : Int) * (ψ : Int) ^ i) := by
    refine (Cg.modN _).trans ?_
    rw [Int.natCast_mul]
    exact (Cg.refl q _).mul (Cg.powN ψ i)
  refine (h1.mul (Cg.refl q _)).trans (Cg.of_eq ?_)
  rw [Int.mul_assoc, ← Int.pow_add]
  congr 2
  grind
/-- Inverse, by halves: w is the power 2 n - 1 of the root -/
theorem ivs_cyF {q n ψ s i : Nat} {a : Nat → Nat} (hq : 0 < q) (hi : i < n) : cyF q (ψ ^ (2 * n - 1)) 1 n a i * ((ψ ^ (2 * n - 1)) ^ i % q) % q * s % q = ivs q n ψ s a i := by
  refine Cg.eq_nat ?_ (Nat.mod_lt _ hq) (ivs_lt hq i)
  refine Cg.trans ?_ (ivs_cg hi).symm
  refine (Cg.modN _).trans ?_
  rw [Int.natCast_mul]
  refine Cg.mul ((Cg.modN _).trans ?_) (Cg.refl q _)
  rw [Int.natCast_mul]
  refine (cyF_cg.mul (Cg.powN _ i)).trans (Cg.of_eq ?_)
  rw [← zsum_mul_right]
  refine zsum_congr n fun j _ => ?_
  rw [Int.natCast_pow, ← Int.pow_mul, ← Int.pow_mul, Int.mul_assoc, ← Int.pow_add]
  congr 2
  grind
theorem back_exp {n k : Nat} (hn : 0 < n) : (2 * n - k % (2 * n)) % (2 * n) % (2 * n) = (2 * n - 1) * k % (2 * n) := by
  have h1 := Nat.mod_lt k (show 0 < 2 * n by omega)
  obtain ⟨r, hr⟩ : ∃ r, k % (2 * n) = r := ⟨_, rfl⟩
  have h2 : (2 * n - 1) * k % (2 * n) = (2 * n - 1) * r % (2 * n) := by rw [Nat.mul_mod, hr, Nat.mul_mod (2 * n - 1) r, ← hr, Nat.mod_mod]
  rw [hr] at h1 ⊢
  rw [Nat.mod_mod, h2]
  rcases Nat.eq_zero_or_pos r with h0 | h0
  · subst h0; simp
  · have h3 : (2 * n - 1) * r = 2 * n * (r - 1) + (2 * n - r) := by
      obtain ⟨t, rfl⟩ : ∃ t, r = t + 1 := ⟨r - 1, by omega⟩
      rw [Nat.add_sub_cancel]
      have : (2 * n - 1) * (t + 1) + (t + 1) = 2 * n * (t + 1) := by rw [← Nat.succ_mul]; congr 1; omega
      have e2 : 2 * n * (t + 1) = 2 * n * t + 2 * n := by rw [Nat.mul_add, Nat.mul_one]
      omega
    rw [h3, Nat.mul_add_mod]
theorem Rt.back {q n ψ k : Nat} (h : Rt q n ψ) : ψ ^ ((2 * n - k % (2 * n)) % (2 * n)) % q = (ψ ^ (2 * n - 1)) ^ k % q := by
  have h1 := h.per (back_exp (k := k) h.n0)
  rw [← Int.natCast_pow, ← Int.natCast_pow] at h1
  rw [← Nat.pow_mul]
  exact Cg.nat.1 h1
theorem Rt.front {q n ψ k : Nat} (h : Rt q n ψ) : ψ ^ (k % (2 * n)) % q = ψ ^ k % q := by
  have h1 := h.per (e := k % (2 * n)) (f := k) (Nat.mod_mod _ _)
  rw [← Int.natCast_pow, ← Int.natCast_pow] at h1
  exact Cg.nat.1 h1
theorem Rt.negb {q n ψ : Nat} (h : Rt q n ψ) : Cg q (((ψ ^ (2 * n - 1) : Nat) : Int) ^ n) (-1) := by
  rw [Int.natCast_pow]
  have := h.place (n - 1)
  rwa [show 2 * (n - 1) + 1 = 2 * n - 1 by have := h.n0; omega] at this

/-! ### products modulo x^n + 1 -/
/-- what the pair i, j gives to the element k -/
def prT (q n : Nat) (a b : Nat → Nat) (i j k : Nat) : Nat := if i + j = k then a i * b j % q else if i + j = k + n then (q - a i * b j % q) % q else 0
/-- the first i rows, and j pairs more -/
def prA (q n : Nat) (a b : Nat → Nat) (i j k : Nat) : Nat := (sumN (fun i' => sumN (fun j' => prT q n a b i' j' k) n) i + sumN (fun j' => prT q n a b i j' k) j) % q
def prF (q n : Nat) (a b : Nat → Nat) (k : Nat) : Nat := if k < n then prA q n a b n 0 k else 0
theorem prA_zero (q n : Nat) (a b : Nat → Nat) (k : Nat) : prA q n a b 0 0 k = 0 := Nat.zero_mod q
theorem prA_row (q n : Nat) (a b : Nat → Nat) (i k : Nat) : prA q n a b i n k = prA q n a b (i + 1) 0 k := by
  unfold prA
  show _ = (sumN _ i + sumN (fun j' => prT q n a b i j' k) n + 0) % q
  rw [Nat.add_zero]
theorem prA_next (q n : Nat) (a b : Nat → Nat) (i j k : Nat) : prA q n a b i (j + 1) k = (prA q n a b i j k + prT q n a b i j k) % q := by
  unfold prA
  rw [Nat.mod_add_mod, Nat.add_assoc]
  rfl
theorem prA_lt {q n : Nat} {a b : Nat → Nat} (hq : 0 < q) (i j k : Nat) : prA q n a b i j k < q := Nat.mod_lt _ hq
theorem prF_lt {q n : Nat} {a b : Nat → Nat} (hq : 0 < q) (k : Nat) : prF q n a b k < q := by
  unfold prF
  split
  · exact prA_lt hq _ _ _
  · exact hq
theorem prF_out {q n k : Nat} {a b : Nat → Nat} (h : n ≤ k) : prF q n a b k = 0 := if_neg (by omega)
/-- the value of a product at a root of x^n + 1 is the product of the values -/
theorem prF_val {q n : Nat} {a b : Nat → Nat} {x : Int} (hq : 0 < q) (hx : Cg q (x ^ n) (-1)) : Cg q (zsum (fun k => ((prF q n a b k : Nat) : Int) * x ^ k) n) (zsum (fun i => (a i : Int) * x ^ i) n * zsum (fun j => (b j : Int) * x ^ j) n) := by
  have h1 : Cg q (zsum (fun k => ((prF q n a b k : Nat) : Int) * x ^ k) n) (zsum (fun k => zsum (fun i => zsum (fun j => ((prT q n a b i j k : Nat) : Int) * x ^ k) n) n) n) := by
    refine Cg.sum n fun k hk => ?_
    unfold prF prA
    rw [if_pos hk]
    refine ((Cg.modN _).mul (Cg.refl q _)).trans (Cg.of_eq ?_)
    show ((sumN (fun i' => sumN (fun j' => prT q n a b i' j' k) n) n + 0 : Nat) : Int) * x ^ k = _
    rw [Nat.add_zero, zsum_cast, ← zsum_mul_right]
    exact zsum_congr n fun i _ => by rw [zsum_cast, ← zsum_mul_right]
  refine h1.trans ?_
  have e1 : zsum (fun k => zsum (fun i => zsum (fun j => ((prT q n a b i j k : Nat) : Int) * x ^ k) n) n) n = zsum (fun i => zsum (fun j => zsum (fun k => ((prT q n a b i j k : Nat) : Int) * x ^ k) n) n) n := by
    rw [zsum_swap]
    exact zsum_congr n fun i _ => zsum_swap _ _ _
  have e2 : zsum (fun i => (a i : Int) * x ^ i) n * zsum (fun j => (b j : Int) * x ^ j) n = zsum (fun i => zsum (fun j => (a i : Int) * (b j : Int) * x ^ (i + j)) n) n := by
    rw [← zsum_mul_right]
    refine zsum_congr n fun i _ => ?_
    rw [← zsum_mul_left]
    refine zsum_congr n fun j _ => ?_
    rw [Int.pow_add]
    grind
  rw [e1, e2]
  refine Cg.sum n fun i hi => Cg.sum n fun j hj => ?_
  have hab : Cg q ((a i * b j % q : Nat) : Int) ((a i : Int) * (b j : Int)) := by
    have := Cg.modN (q := q) (a i * b j)
    rwa [Int.natCast_mul] at this
  by_cases hlt : i + j < n
  · rw [zsum_one (j := i + j) n hlt fun k _ he => by unfold prT; rw [if_neg (fun h => he h.symm), if_neg (by omega)]; simp]
    unfold prT
    rw [if_pos rfl]
    exact hab.mul (Cg.refl q _)
  · obtain ⟨k, hk⟩ : ∃ k, i + j = k + n := ⟨i + j - n, by omega⟩
    rw [zsum_one (j := k) n (by omega) fun k' _ he => by unfold prT; rw [if_neg (by omega), if_neg (by omega)]; simp]
    unfold prT
    rw [if_neg (by omega), if_pos hk, hk, Int.pow_add]
    have hlt2 : a i * b j % q < q := Nat.mod_lt _ hq
    have h2 : Cg q (((q - a i * b j % q) % q : Nat) : Int) (-((a i : Int) * (b j : Int))) := by
      refine (Cg.modN _).trans ?_
      rw [Int.ofNat_sub (by omega)]
      have h3 := hab.neg
      refine Cg.trans ⟨1, ?_⟩ h3
      omega
    refine (h2.mul (Cg.refl q (x ^ k))).trans ?_
    have h4 := ((Cg.refl q ((a i : Int) * (b j : Int) * x ^ k)).mul hx).symm
    refine Cg.trans (Cg.of_eq ?_) (h4.trans (Cg.of_eq ?_))
    · grind
    · grind
theorem fwd_val {q n ψ j : Nat} {a : Nat → Nat} (h : j < n) : Cg q ((fwd q n ψ a j : Nat) : Int) (zsum (fun i => (a i : Int) * ((ψ : Int) ^ (2 * j + 1)) ^ i) n) := by
  refine (fwd_cg h).trans (Cg.of_eq (zsum_congr n fun i _ => ?_))
  rw [← Int.pow_mul]
  congr 2
  grind
theorem fwd_pr {q n ψ : Nat} {a b : Nat → Nat} (h : Rt q n ψ) {j : Nat} (hj : j < n) : fwd q n ψ (prF q n a b) j = fwd q n ψ a j * fwd q n ψ b j % q := by
  have hq : 0 < q := by have := h.pr.1; omega
  refine Cg.eq_nat ?_ (fwd_lt hq j) (Nat.mod_lt _ hq)
  refine (fwd_val hj).trans ((prF_val hq (h.place j)).trans ?_)
  refine Cg.trans ?_ (Cg.modN _).symm
  rw [Int.natCast_mul]
  exact ((fwd_val hj).mul (fwd_val hj)).symm
/-- how Mul multiplies -/
theorem ivs_pr {q n ψ s : Nat} {a b x : Nat → Nat} (h : Rt q n ψ) (hs : Cg q ((s : Int) * n) 1) (hx : ∀ j, j < n → x j = fwd q n ψ a j * fwd q n ψ b j % q) {k : Nat} (hk : k < n) : ivs q n ψ s x k = prF q n a b k := by
  have hq : 0 < q := by have := h.pr.1; omega
  have h1 := ivs_fwd (a := prF q n a b) h hs (fun j _ => prF_lt hq j) hk
  rw [← h1]
  unfold ivs
  rw [if_pos hk, if_pos hk, sumN_congr n fun j hj => by rw [hx j hj, ← fwd_pr h hj]]
end Go.Proofs.Ytmidpholmgmdpaa
