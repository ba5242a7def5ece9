/- Frobenius and a norm, in any commutative ring where a prime is zero. No program in sight. -/
/- The numbers behind the factors of x^n + 1 modulo p: what is looked up for each prime. No program in sight. -/
/- The norm of x + c modulo a polynomial in x^e of degree two, in any commutative ring where a prime is zero. No program in sight. -/
import Derived.Test.YtkklacgoeopekaaGcdPlain
namespace Go.Proofs.Ytkklacgoeopekaa
open Go.RowKit
set_option linter.unusedVariables false

instance (priority := low) rgCast {R : Type} [Lean.Grind.CommRing R] : NatCast R := Lean.Grind.Semiring.natCast
namespace Rg
variable {R : Type} [Lean.Grind.CommRing R]
theorem pow_add (x : R) (a : Nat) : ∀ b, x ^ (a + b) = x ^ a * x ^ b
  | 0 => by rw [Nat.add_zero, Lean.Grind.Semiring.pow_zero, Lean.Grind.Semiring.mul_one]
  | b + 1 => by rw [← Nat.add_assoc, Lean.Grind.Semiring.pow_succ, pow_add x a b, Lean.Grind.Semiring.pow_succ, Lean.Grind.Semiring.mul_assoc]
theorem pow_mul (x : R) (a : Nat) : ∀ b, x ^ (a * b) = (x ^ a) ^ b
  | 0 => by rw [Nat.mul_zero, Lean.Grind.Semiring.pow_zero, Lean.Grind.Semiring.pow_zero]
  | b + 1 => by rw [Nat.mul_succ, pow_add, pow_mul x a b, Lean.Grind.Semiring.pow_succ]
theorem one_pow : ∀ b : Nat, (1 : R) ^ b = 1
  | 0 => Lean.Grind.Semiring.pow_zero _
  | b + 1 => by rw [Lean.Grind.Semiring.pow_succ, one_pow b, Lean.Grind.Semiring.mul_one]
theorem mul_pow (x y : R) : ∀ b : Nat, (x * y) ^ b = x ^ b * y ^ b
  | 0 => by rw [Lean.Grind.Semiring.pow_zero, Lean.Grind.Semiring.pow_zero, Lean.Grind.Semiring.pow_zero, Lean.Grind.Semiring.mul_one]
  | b + 1 => by
    rw [Lean.Grind.Semiring.pow_succ, mul_pow x y b, Lean.Grind.Semiring.pow_succ, Lean.Grind.Semiring.pow_succ]
    grind
theorem cast_add (a b : Nat) : ((a + b : Nat) : R) = (a : R) + (b : R) := Lean.Grind.Semiring.natCast_add a b
theorem cast_mul (a b : Nat) : ((a * b : Nat) : R) = (a : R) * (b : R) := Lean.Grind.Semiring.natCast_mul a b
theorem cast_one : ((1 : Nat) : R) = 1 := Lean.Grind.Semiring.natCast_one
theorem cast_zero : ((0 : Nat) : R) = 0 := Lean.Grind.Semiring.natCast_zero
theorem cast_pow (a : Nat) : ∀ b : Nat, ((a ^ b : Nat) : R) = (a : R) ^ b
  | 0 => by rw [Nat.pow_zero, Lean.Grind.Semiring.pow_zero, cast_one]
  | b + 1 => by rw [Nat.pow_succ, cast_mul, cast_pow a b, Lean.Grind.Semiring.pow_succ]
theorem cast_mod {p : Nat} (hp : (p : R) = 0) (a : Nat) : ((a % p : Nat) : R) = (a : R) := by
  have h := Nat.div_add_mod a p
  have h2 : ((p * (a / p) + a % p : Nat) : R) = (a : R) := by rw [h]
  rw [cast_add, cast_mul, hp] at h2
  rw [← h2]
  grind
def rsum (x : R) (n : Nat) : Nat → R
  | 0 => ((Mr.C n 0 : Nat) : R)
  | k + 1 => rsum x n k + ((Mr.C n (k + 1) : Nat) : R) * x ^ (k + 1)
theorem rsum_succ (x : R) (n : Nat) : ∀ k, rsum x (n + 1) (k + 1) = rsum x n (k + 1) + x * rsum x n k
  | 0 => by
    show ((Mr.C (n + 1) 0 : Nat) : R) + ((Mr.C n 0 + Mr.C n 1 : Nat) : R) * x ^ (0 + 1) = (((Mr.C n 0 : Nat) : R) + ((Mr.C n 1 : Nat) : R) * x ^ (0 + 1)) + x * ((Mr.C n 0 : Nat) : R)
    rw [cast_add, show Mr.C (n + 1) 0 = 1 by simp [Mr.C], show Mr.C n 0 = 1 by cases n <;> rfl]
    grind
  | k + 1 => by
    have ih := rsum_succ x n k
    show rsum x (n + 1) (k + 1) + ((Mr.C n (k + 1) + Mr.C n (k + 1 + 1) : Nat) : R) * x ^ (k + 1 + 1) = (rsum x n (k + 1) + ((Mr.C n (k + 1 + 1) : Nat) : R) * x ^ (k + 1 + 1)) + x * (rsum x n k + ((Mr.C n (k + 1) : Nat) : R) * x ^ (k + 1))
    rw [ih, cast_add, Lean.Grind.Semiring.pow_succ x (k + 1)]
    generalize rsum x n (k + 1) = A
    generalize rsum x n k = B
    generalize x ^ (k + 1) = D
    generalize ((Mr.C n (k + 1) : Nat) : R) = E
    generalize ((Mr.C n (k + 1 + 1) : Nat) : R) = F
    grind
theorem rsum_full (x : R) : ∀ n, rsum x n n = (x + 1) ^ n
  | 0 => by
    show ((1 : Nat) : R) = _
    rw [cast_one, Lean.Grind.Semiring.pow_zero]
  | n + 1 => by
    rw [rsum_succ]
    show (rsum x n n + ((Mr.C n (n + 1) : Nat) : R) * x ^ (n + 1)) + x * rsum x n n = _
    rw [Mr.C_big n (n + 1) (by omega), cast_zero, rsum_full x n, Lean.Grind.Semiring.pow_succ (x + 1)]
    grind
theorem rsum_mod {p : Nat} (hp : Mr.Pr p) (h0 : (p : R) = 0) (x : R) : ∀ k, k < p → rsum x p k = 1
  | 0, _ => by
    show ((Mr.C p 0 : Nat) : R) = 1
    rw [show Mr.C p 0 = 1 by cases p <;> rfl, cast_one]
  | k + 1, h => by
    have hd : p ∣ Mr.C p (k + 1) := by
      obtain ⟨q, rfl⟩ : ∃ q, p = q + 1 := ⟨p - 1, by have := hp.1; omega⟩
      have h1 : (q + 1) ∣ (k + 1) * Mr.C (q + 1) (k + 1) := by rw [Mr.C_succ]; exact Nat.dvd_mul_right _ _
      rcases hp.dvd_mul h1 with h2 | h2
      · have := Nat.le_of_dvd (by omega) h2; omega
      · exact h2
    obtain ⟨c, hc⟩ := hd
    show rsum x p k + ((Mr.C p (k + 1) : Nat) : R) * x ^ (k + 1) = 1
    rw [hc, cast_mul, h0, rsum_mod hp h0 x k (by omega)]
    grind
theorem frob1 {p : Nat} (hp : Mr.Pr p) (h0 : (p : R) = 0) (x : R) : (x + 1) ^ p = x ^ p + 1 := by
  rw [← rsum_full]
  obtain ⟨q, hq⟩ : ∃ q, p = q + 1 := ⟨p - 1, by have := hp.1; omega⟩
  have h2 := rsum_mod hp h0 x q (by omega)
  have h3 : rsum x p p = rsum x p q + ((Mr.C p p : Nat) : R) * x ^ p := by
    have h4 : ∀ m, m = q + 1 → rsum x p m = rsum x p q + ((Mr.C p m : Nat) : R) * x ^ m := fun m e => by
      subst e
      rfl
    exact h4 p hq
  rw [h3, h2, Mr.C_self, cast_one]
  grind
theorem frob {p : Nat} (hp : Mr.Pr p) (h0 : (p : R) = 0) (x : R) : ∀ c : Nat, (x + (c : R)) ^ p = x ^ p + (c : R)
  | 0 => by rw [cast_zero, Lean.Grind.Semiring.add_zero, Lean.Grind.Semiring.add_zero]
  | c + 1 => by
    rw [cast_add, cast_one, ← Lean.Grind.Semiring.add_assoc, frob1 hp h0, frob hp h0 x c, Lean.Grind.Semiring.add_assoc]
theorem frobs {p : Nat} (hp : Mr.Pr p) (h0 : (p : R) = 0) (x : R) (c : Nat) : ∀ j, (x + (c : R)) ^ (p ^ j) = x ^ (p ^ j) + (c : R)
  | 0 => by
    have h1 : ∀ z : R, z ^ 1 = z := fun z => by grind
    rw [Nat.pow_zero, h1, h1]
  | j + 1 => by rw [Nat.pow_succ, pow_mul, frobs hp h0 x c j, frob hp h0, ← pow_mul]
/-- a product -/
def lprod : List R → R
  | [] => 1
  | a :: l => a * lprod l
theorem lprod_perm {l m : List R} (h : l.Perm m) : lprod l = lprod m := by
  induction h with
  | nil => rfl
  | cons a _ ih => show a * _ = a * _; rw [ih]
  | swap a b l => show b * (a * lprod l) = a * (b * lprod l); grind
  | trans _ _ h1 h2 => rw [h1, h2]
theorem lprod_append (l m : List R) : lprod (l ++ m) = lprod l * lprod m := by
  induction l with
  | nil => show lprod m = 1 * lprod m; grind
  | cons a l ih => show a * lprod (l ++ m) = a * lprod l * lprod m; rw [ih]; grind
/-- the product over the exponents -/
def pe (x : R) (c : Nat) (l : List Nat) : R := lprod (l.map fun k => x ^ k + (c : R))
theorem pe_perm {x : R} {c : Nat} {l m : List Nat} (h : l.Perm m) : pe x c l = pe x c m := lprod_perm (h.map _)
theorem pow_per {x : R} {n : Nat} (hx : x ^ n = -1) (k : Nat) : x ^ (k % (2 * n)) = x ^ k := by
  have h1 : x ^ (2 * n) = 1 := by
    rw [Nat.mul_comm, pow_mul, hx]
    grind
  conv => rhs; rw [← Nat.div_add_mod k (2 * n), pow_add, pow_mul, h1, one_pow]
  grind
theorem pe_mod {x : R} {n : Nat} (hx : x ^ n = -1) (c : Nat) (l : List Nat) : pe x c (l.map (· % (2 * n))) = pe x c l := by
  unfold pe
  rw [List.map_map]
  congr 1
  refine List.map_congr_left fun k _ => ?_
  show x ^ (k % (2 * n)) + (c : R) = _
  rw [pow_per hx]
/-- the exponents in arithmetic progression -/
def prog (n e : Nat) : List Nat := (List.range e).map fun t => 1 + 2 * n / e * t
def sgnN (e : Nat) (c : Nat) (x : R) : R := if e = 1 then x + (c : R) else (c : R) ^ e - x ^ e
theorem pe_prog {x : R} {n e : Nat} (he : e = 1 ∨ e = 2 ∨ e = 4 ∨ e = 8) (hn : e ∣ n) (hx : x ^ n = -1) (c : Nat) : pe x c (prog n e) = sgnN e c x := by
  obtain ⟨k, rfl⟩ := hn
  have hk : ∀ t, x ^ (1 + 2 * k * t) = x * (x ^ (2 * k)) ^ t := fun t => by
    rw [pow_add, pow_mul]
    congr 1
    grind
  have hd : 0 < e → 2 * (e * k) / e = 2 * k := fun h => by rw [Nat.mul_left_comm, Nat.mul_div_cancel_left _ h]
  have hw : ∀ f, e = 2 * f → (x ^ (2 * k)) ^ f = -1 := fun f hf => by
    rw [← pow_mul, ← hx, hf]
    congr 1
    grind
  unfold pe prog sgnN
  rcases he with rfl | rfl | rfl | rfl
  · rw [if_pos rfl, hd (by omega)]
    show lprod [x ^ (1 + 2 * k * 0) + (c : R)] = _
    rw [hk]
    show (x * (x ^ (2 * k)) ^ 0 + (c : R)) * 1 = _
    grind
  · rw [if_neg (by omega), hd (by omega)]
    have h1 := hw 1 rfl
    show lprod [x ^ (1 + 2 * k * 0) + (c : R), x ^ (1 + 2 * k * 1) + (c : R)] = _
    rw [hk, hk]
    generalize x ^ (2 * k) = w at h1 ⊢
    show (x * w ^ 0 + (c : R)) * ((x * w ^ 1 + (c : R)) * 1) = _
    grind
  · rw [if_neg (by omega), hd (by omega)]
    have h1 := hw 2 rfl
    show lprod [x ^ (1 + 2 * k * 0) + (c : R), x ^ (1 + 2 * k * 1) + (c : R), x ^ (1 + 2 * k * 2) + (c : R), x ^ (1 + 2 * k * 3) + (c : R)] = _
    rw [hk, hk, hk, hk]
    generalize x ^ (2 * k) = w at h1 ⊢
    show (x * w ^ 0 + (c : R)) * ((x * w ^ 1 + (c : R)) * ((x * w ^ 2 + (c : R)) * ((x * w ^ 3 + (c : R)) * 1))) = _
    grind
  · rw [if_neg (by omega), hd (by omega)]
    have h1 := hw 4 rfl
    show lprod [x ^ (1 + 2 * k * 0) + (c : R), x ^ (1 + 2 * k * 1) + (c : R), x ^ (1 + 2 * k * 2) + (c : R), x ^ (1 + 2 * k * 3) + (c : R), x ^ (1 + 2 * k * 4) + (c : R), x ^ (1 + 2 * k * 5) + (c : R), x ^ (1 + 2 * k * 6) + (c : R), x ^ (1 + 2 * k * 7) + (c : R)] = _
    rw [hk, hk, hk, hk, hk, hk, hk, hk]
    generalize x ^ (2 * k) = w at h1 ⊢
    show (x * w ^ 0 + (c : R)) * ((x * w ^ 1 + (c : R)) * ((x * w ^ 2 + (c : R)) * ((x * w ^ 3 + (c : R)) * ((x * w ^ 4 + (c : R)) * ((x * w ^ 5 + (c : R)) * ((x * w ^ 6 + (c : R)) * ((x * w ^ 7 + (c : R)) * 1))))))) = _
    generalize (c : R) = C
    have e1 : (x * w ^ 0 + C) * (x * w ^ 4 + C) = C ^ 2 - x ^ 2 := by grind
    have e2 : (x * w ^ 1 + C) * (x * w ^ 5 + C) = C ^ 2 - x ^ 2 * w ^ 2 := by grind
    have e3 : (x * w ^ 2 + C) * (x * w ^ 6 + C) = C ^ 2 - x ^ 2 * w ^ 4 := by grind
    have e4 : (x * w ^ 3 + C) * (x * w ^ 7 + C) = C ^ 2 - x ^ 2 * w ^ 6 := by grind
    calc _ = ((x * w ^ 0 + C) * (x * w ^ 4 + C)) * ((x * w ^ 1 + C) * (x * w ^ 5 + C)) * (((x * w ^ 2 + C) * (x * w ^ 6 + C)) * ((x * w ^ 3 + C) * (x * w ^ 7 + C))) := by grind
      _ = (C ^ 2 - x ^ 2) * (C ^ 2 - x ^ 2 * w ^ 2) * ((C ^ 2 - x ^ 2 * w ^ 4) * (C ^ 2 - x ^ 2 * w ^ 6)) := by rw [e1, e2, e3, e4]
      _ = _ := by grind
end Rg
end Go.Proofs.Ytkklacgoeopekaa

namespace Go.Proofs.Ytkklacgoeopekaa
open Go.RowKit
set_option linter.unusedVariables false

/-- f x, x reckoned first -/
def frc {α : Type} (x : Nat) (f : Nat → α) : α := @Nat.rec (fun _ => α) (f 0) (fun n _ => f (Nat.succ n)) x
theorem frc_eq {α : Type} (x : Nat) (f : Nat → α) : frc x f = f x := by cases x <;> rfl
/-- the power a^k modulo p, in two leaps -/
def pw (a k p : Nat) : Nat := frc (a ^ (k / 256) % p) fun b => (b ^ 256 * a ^ (k % 256)) % p
theorem pw_eq (a k p : Nat) : pw a k p = a ^ k % p := by
  unfold pw
  rw [frc_eq, Nat.mul_mod, ← Nat.pow_mod, ← Nat.mul_mod, ← Nat.pow_mul, ← Nat.pow_add]
  congr 2
  omega
/-- the order of r modulo 2 n -/
def dGo (N r : Nat) (fuel : Nat) : Nat → Nat → Nat := @Nat.rec (fun _ => Nat → Nat → Nat) (fun _ d => d) (fun _ ih x d => cond (Nat.beq x 1) d (frc (x * r % N) fun y => frc (d + 1) fun e => ih y e)) fuel
def dOf (n r : Nat) : Nat := dGo (2 * n) r 16 r 1
/-- a + b y, squared; k times, then handed on -/
def pit (p τ δ : Nat) (k : Nat) : Nat → Nat → Bool := @Nat.rec (fun _ => Nat → Nat → Bool) (fun a b => Nat.beq (a + 1) p && Nat.beq b 0) (fun _ ih a b => frc ((a * a + b * b * δ) % p) fun c => frc ((2 * a * b + b * b * τ) % p) fun d => ih c d) k
/-- the least number from g on that is no square -/
def nrGo (p h : Nat) (fuel : Nat) : Nat → Nat := @Nat.rec (fun _ => Nat → Nat) (fun g => g) (fun _ ih g => cond (Nat.beq (pw g h p) 1) (frc (g + 1) ih) g) fuel
def sqr (p a : Nat) : Nat := pw a ((p + 1) / 4) p
def tLast (p δ : Nat) : List Nat → List (Nat × Nat)
  | [] => []
  | v :: l => frc (sqr p ((v + 2 * p - 2 * δ) % p)) fun s => frc (p - s) fun u => (s, δ) :: (u, δ) :: tLast p δ l
def tStep (p : Nat) : List Nat → List Nat
  | [] => []
  | v :: l => frc (sqr p ((v + 2) % p)) fun s => frc (p - s) fun u => s :: u :: tStep p l
def tGo (p δ : Nat) (k : Nat) : List Nat → List (Nat × Nat) := @Nat.rec (fun _ => List Nat → List (Nat × Nat)) (fun l => tLast p δ l) (fun _ ih l => ih (tStep p l)) k
def zGo (p z : Nat) (k : Nat) : Nat → List (Nat × Nat) := @Nat.rec (fun _ => Nat → List (Nat × Nat)) (fun _ => []) (fun _ ih w => (0, w) :: frc (w * z % p * z % p) ih) k
/-- the pairs (τ, δ) -/
def tOf (p m : Nat) : List (Nat × Nat) :=
  cond (Nat.beq (p % 4) 1) (frc (nrGo p ((p - 1) / 2) 60 2) fun g => frc (pw g ((p - 1) / (2 * m)) p) fun z => zGo p z m z)
    (cond (Nat.beq m 1) (frc (p - 1) fun q => [(0, q)]) (frc (cond (Nat.beq (p % (4 * m)) (2 * m - 1)) 1 (p - 1)) fun δ => tGo p δ (Nat.log2 m - 1) [0]))
def kapN (p e k1 k0 A B c : Nat) : Bool := frc ((c ^ (2 * e) + A * c ^ e + B) % p) fun a => frc (a ^ k1 % p) fun b => Nat.beq ((b ^ 256 * a ^ k0) % p) 1
def sgN (p e k1 k0 A B : Nat) (C : Nat) : Nat := @Nat.rec (fun _ => Nat) 0 (fun k ih => 2 * ih + cond (kapN p e k1 k0 A B (Nat.succ k)) 1 0) C
def sgL (p e k1 k0 C : Nat) : List (Nat × Nat) → List Nat
  | [] => []
  | (τ, δ) :: l => frc (cond (Nat.beq e 1) (p - (p - τ) % p) ((p - τ) % p)) fun A => frc ((p - δ) % p) fun B => frc (sgN p e k1 k0 A B C) fun s => s :: sgL p e k1 k0 C l
def nin (a : Nat) : List Nat → Bool
  | [] => true
  | b :: l => cond (Nat.beq a b) false (nin a l)
def dis : List Nat → Bool
  | [] => true
  | a :: l => nin a l && dis l
def sepC (p e : Nat) (T : List (Nat × Nat)) (C : Nat) : Bool := Nat.ble (C + 1) p && frc ((p - 1) / 2 / 256) fun k1 => frc ((p - 1) / 2 % 256) fun k0 => dis (sgL p e k1 k0 C T)
/-- of one pair -/
def tChk (p m : Nat) (t : Nat × Nat) : Bool :=
  Nat.ble (t.1 + 1) p && (Nat.ble (t.2 + 1) p && (pit p t.1 t.2 (Nat.log2 m + 1) 0 1 &&
    (cond (Nat.beq (p % (4 * m)) (2 * m + 1)) (Nat.beq t.1 0) (cond (Nat.beq (p % (4 * m)) (2 * m - 1)) (Nat.beq t.2 1) (Nat.beq (t.2 + 1) p)))))
def tAll (p m : Nat) : List (Nat × Nat) → Bool
  | [] => true
  | t :: l => tChk p m t && tAll p m l
def good1 (p e m : Nat) (T : List (Nat × Nat)) : Bool :=
  Nat.beq T.length m && (tAll p m T && ((cond (Nat.ble m 2) (sepC p e T (m - 1)) false) || (sepC p e T 6 || (sepC p e T 12 || sepC p e T (Nat.min (p - 1) 20)))))
def good (p n : Nat) : Bool := frc (p % (2 * n)) fun r => frc (dOf n r) fun d => cond (Nat.beq d 1) true (frc (d / 2) fun e => frc (n / d) fun m => good1 p e m (tOf p m))
def good5 (p : Nat) : Bool := good p 2 && (good p 4 && (good p 8 && (good p 16 && good p 32)))
def pr54 : List Nat := [2, 3, 5, 7, 11, 13, 17, 19, 23, 29, 31, 37, 41, 43, 47, 53, 59, 61, 67, 71, 73, 79, 83, 89, 97, 101, 103, 107, 109, 113, 127, 131, 137, 139, 149, 151, 157, 163, 167, 173, 179, 181, 191, 193, 197, 199, 211, 223, 227, 229, 233, 239, 241, 251]
def prP : Nat := 64266330917908644872330635228106713310880186591609208114244758680898150367880703152525200743234420230
def isP (p : Nat) : Bool := cond (Nat.ble p 255) (pr54.elem p) (Nat.beq (Nat.gcd p 64266330917908644872330635228106713310880186591609208114244758680898150367880703152525200743234420230) 1)
/-- the odd numbers from p on -/
def gRun (k : Nat) : Nat → Bool := @Nat.rec (fun _ => Nat → Bool) (fun _ => true) (fun _ ih p => cond (isP p) (good5 p) true && frc (p + 2) ih) k
def gAll (lo : Nat) (k : Nat) : Bool := @Nat.rec (fun _ => Bool) true (fun k ih => frc (256 * (lo + k) + 3) (gRun 128) && ih) k
end Go.Proofs.Ytkklacgoeopekaa

namespace Go.Proofs.Ytkklacgoeopekaa
open Go.RowKit
set_option linter.unusedVariables false

namespace Rg
variable {R : Type} [Lean.Grind.CommRing R]
theorem pow_one' (x : R) : x ^ 1 = x := by grind
theorem cast_sub {p a : Nat} (h0 : (p : R) = 0) (h : a ≤ p) : ((p - a : Nat) : R) = -(a : R) := by
  have h1 : ((p - a + a : Nat) : R) = 0 := by rw [Nat.sub_add_cancel h]; exact h0
  rw [cast_add] at h1
  generalize ((p - a : Nat) : R) = A at h1 ⊢
  generalize (a : R) = B at h1 ⊢
  grind
theorem cast_two : ((2 : Nat) : R) = 2 := by
  rw [show (2 : Nat) = 1 + 1 from rfl, cast_add, cast_one]
  grind
/-- squared k times -/
theorem pit_sound {p τ δ : Nat} {y : R} (h0 : (p : R) = 0) (hy : y * y = (τ : R) * y + (δ : R)) : ∀ (k a b : Nat), pit p τ δ k a b = true → ((a : R) + (b : R) * y) ^ (2 ^ k) = -1
  | 0, a, b, h => by
    have h1 : (Nat.beq (a + 1) p && Nat.beq b 0) = true := h
    rw [Bool.and_eq_true] at h1
    have h2 := Nat.eq_of_beq_eq_true h1.1
    have h3 := Nat.eq_of_beq_eq_true h1.2
    have h4 : ((a + 1 : Nat) : R) = 0 := by rw [h2]; exact h0
    rw [cast_add, cast_one] at h4
    rw [h3, cast_zero, Nat.pow_zero, pow_one']
    generalize (a : R) = A at h4 ⊢
    grind
  | k + 1, a, b, h => by
    have h1 : (frc ((a * a + b * b * δ) % p) fun c => frc ((2 * a * b + b * b * τ) % p) fun d => pit p τ δ k c d) = true := h
    rw [frc_eq, frc_eq] at h1
    have ih := pit_sound h0 hy k _ _ h1
    rw [cast_mod h0, cast_mod h0, cast_add, cast_add, cast_mul, cast_mul, cast_mul, cast_mul, cast_mul, cast_mul, cast_mul, cast_two] at ih
    rw [Nat.pow_succ, Nat.mul_comm, pow_mul]
    rw [← ih]
    congr 1
    generalize (a : R) = A
    generalize (b : R) = B
    generalize (τ : R) = T at hy
    generalize (δ : R) = D at hy
    grind
theorem y_conj {p m τ δ : Nat} {y : R} (h0 : (p : R) = 0) (hp : 2 ≤ p) (hm : 1 ≤ m) (hy : y * y = (τ : R) * y + (δ : R)) (h2 : y ^ (2 * m) = -1)
    (hc : (p % (4 * m) = 2 * m + 1 ∧ τ = 0) ∨ (p % (4 * m) = 2 * m - 1 ∧ δ = 1) ∨ (p % (4 * m) = 4 * m - 1 ∧ δ + 1 = p)) : y ^ p = (τ : R) - y := by
  have e4 : 4 * m = 2 * (2 * m) := by omega
  rw [← pow_per h2 p, ← e4]
  rcases hc with ⟨h, rfl⟩ | ⟨h, rfl⟩ | ⟨h, hd⟩
  · rw [h, Lean.Grind.Semiring.pow_succ, h2, cast_zero]
    grind
  · have h3 : y ^ (2 * m - 1) * y = -1 := by rw [← Lean.Grind.Semiring.pow_succ, show 2 * m - 1 + 1 = 2 * m by omega, h2]
    rw [h]
    rw [cast_one] at hy
    generalize y ^ (2 * m - 1) = A at h3 ⊢
    generalize (τ : R) = T at hy ⊢
    grind
  · have h3 : y ^ (4 * m - 1) * y = 1 := by
      rw [← Lean.Grind.Semiring.pow_succ, show 4 * m - 1 + 1 = 2 * m * 2 by omega, pow_mul, h2]
      grind
    have h4 : (δ : R) = -1 := by
      have h5 : ((δ + 1 : Nat) : R) = 0 := by rw [hd]; exact h0
      rw [cast_add, cast_one] at h5
      generalize (δ : R) = D at h5 ⊢
      grind
    rw [h]
    rw [h4] at hy
    generalize y ^ (4 * m - 1) = A at h3 ⊢
    generalize (τ : R) = T at hy ⊢
    grind
theorem range_split {e : Nat} (he : e = 1 ∨ e = 2 ∨ e = 4 ∨ e = 8) : (List.range (2 * e)).Perm ((List.range e).map (fun j => 2 * j) ++ (List.range e).map (fun j => 2 * j + 1)) := by
  rcases he with rfl | rfl | rfl | rfl <;> decide
theorem neg_pow_odd {p : Nat} (h : p % 2 = 1) : (-1 : R) ^ p = -1 := by
  obtain ⟨k, rfl⟩ : ∃ k, p = 2 * k + 1 := ⟨p / 2, by omega⟩
  rw [Lean.Grind.Semiring.pow_succ, pow_mul, show (-1 : R) ^ 2 = 1 by grind, one_pow]
  grind
theorem pe_all {p n e c : Nat} {x : R} (hp : Mr.Pr p) (h0 : (p : R) = 0) (hodd : p % 2 = 1) (he : e = 1 ∨ e = 2 ∨ e = 4 ∨ e = 8) (hen : e ∣ n) (hx : x ^ n = -1) (hperm : ((List.range e).map fun j => p ^ (2 * j) % (2 * n)).Perm (prog n e)) :
    lprod ((List.range (2 * e)).map fun j => (x + (c : R)) ^ (p ^ j)) = sgnN e c x * sgnN e c (x ^ p) := by
  have e0 : ((List.range (2 * e)).map fun j => (x + (c : R)) ^ (p ^ j)) = (List.range (2 * e)).map fun j => x ^ (p ^ j) + (c : R) := List.map_congr_left fun j _ => frobs hp h0 x c j
  rw [e0, lprod_perm ((range_split he).map _), List.map_append, lprod_append, List.map_map, List.map_map]
  have half : ∀ z : R, z ^ n = -1 → lprod ((List.range e).map fun j => z ^ (p ^ (2 * j)) + (c : R)) = sgnN e c z := fun z hz => by
    rw [← pe_prog he hen hz c, ← pe_perm hperm]
    have e1 : ((List.range e).map fun j => p ^ (2 * j) % (2 * n)) = ((List.range e).map fun j => p ^ (2 * j)).map (· % (2 * n)) := by
      rw [List.map_map]
      rfl
    rw [e1, pe_mod hz]
    unfold pe
    rw [List.map_map]
    rfl
  have e2 : ((fun j => x ^ (p ^ j) + (c : R)) ∘ fun j => 2 * j + 1) = fun j => (x ^ p) ^ (p ^ (2 * j)) + (c : R) := funext fun j => by
    show x ^ (p ^ (2 * j + 1)) + (c : R) = _
    rw [Nat.pow_succ, Nat.mul_comm, pow_mul]
  rw [e2, half (x ^ p) (by rw [← pow_mul, Nat.mul_comm, pow_mul, hx, neg_pow_odd hodd])]
  congr 1
  exact half x hx
/-- the norm -/
theorem norm_tri {p n e c τ δ : Nat} {x : R} (hp : Mr.Pr p) (h0 : (p : R) = 0) (hodd : p % 2 = 1) (he : e = 1 ∨ e = 2 ∨ e = 4 ∨ e = 8) (hen : e ∣ n) (hx : x ^ n = -1) (hperm : ((List.range e).map fun j => p ^ (2 * j) % (2 * n)).Perm (prog n e))
    (hy : x ^ e * x ^ e = (τ : R) * x ^ e + (δ : R)) (hyp : (x ^ e) ^ p = (τ : R) - x ^ e) :
    lprod ((List.range (2 * e)).map fun j => (x + (c : R)) ^ (p ^ j)) = (c : R) ^ e * (c : R) ^ e + (if e = 1 then (τ : R) else -(τ : R)) * (c : R) ^ e - (δ : R) := by
  rw [pe_all hp h0 hodd he hen hx hperm]
  unfold sgnN
  by_cases h1 : e = 1
  · subst h1
    rw [pow_one'] at hy hyp
    rw [if_pos rfl, if_pos rfl, if_pos rfl, hyp, pow_one']
    generalize (c : R) = C
    generalize (τ : R) = T at hy ⊢
    generalize (δ : R) = D at hy ⊢
    grind
  · rw [if_neg h1, if_neg h1, if_neg h1, ← pow_mul x, Nat.mul_comm p e, pow_mul, hyp]
    generalize x ^ e = Y at hy ⊢
    generalize (c : R) ^ e = C
    generalize (τ : R) = T at hy ⊢
    generalize (δ : R) = D at hy ⊢
    grind
end Rg
end Go.Proofs.Ytkklacgoeopekaa
