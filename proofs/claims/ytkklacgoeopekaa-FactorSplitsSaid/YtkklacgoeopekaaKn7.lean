/- Commutative rings, and a normal form for their terms: two terms with one normal form are equal. No program in sight. -/
/- Frobenius and a norm, in any commutative ring where a prime is zero. No program in sight. -/
/- The numbers behind the factors of x^n + 1 modulo p: what is looked up for each prime. No program in sight. -/
/- The norm of x + c modulo a polynomial in x^e of degree two, in any commutative ring where a prime is zero. No program in sight. -/
import Derived.Test.YtkklacgoeopekaaGcdPlain
namespace Go.Proofs.Ytkklacgoeopekaa
set_option linter.unusedVariables false

/-- a commutative ring -/
class CRg (R : Type) extends Add R, Mul R, Neg R, Sub R where
  [cast : NatCast R]
  [num : ∀ n : Nat, OfNat R n]
  [hpw : HPow R Nat R]
  add_comm : ∀ a b : R, a + b = b + a
  add_assoc : ∀ a b c : R, a + b + c = a + (b + c)
  add_zero : ∀ a : R, a + 0 = a
  mul_comm : ∀ a b : R, a * b = b * a
  mul_assoc : ∀ a b c : R, a * b * c = a * (b * c)
  mul_one : ∀ a : R, a * 1 = a
  left_distrib : ∀ a b c : R, a * (b + c) = a * b + a * c
  neg_add_cancel : ∀ a : R, -a + a = 0
  sub_eq : ∀ a b : R, a - b = a + -b
  pow_zero : ∀ a : R, a ^ 0 = 1
  pow_succ : ∀ (a : R) (n : Nat), a ^ (n + 1) = a ^ n * a
  cast_zero : ((0 : Nat) : R) = 0
  cast_succ : ∀ n : Nat, ((n + 1 : Nat) : R) = (n : R) + 1
  num_eq : ∀ n : Nat, (OfNat.ofNat n : R) = (n : R)
instance (priority := low) rgCast {R : Type} [CRg R] : NatCast R := CRg.cast
instance (priority := low) rgNum {R : Type} [CRg R] (n : Nat) : OfNat R n := CRg.num n
instance (priority := low) rgPow {R : Type} [CRg R] : HPow R Nat R := CRg.hpw
namespace CRg
variable {R : Type} [CRg R]
theorem zero_add (a : R) : 0 + a = a := by rw [add_comm, add_zero]
theorem one_mul (a : R) : 1 * a = a := by rw [mul_comm, mul_one]
theorem right_distrib (a b c : R) : (a + b) * c = a * c + b * c := by rw [mul_comm, left_distrib, mul_comm c, mul_comm c]
theorem add_left_comm (a b c : R) : a + (b + c) = b + (a + c) := by rw [← add_assoc, add_comm a, add_assoc]
theorem mul_left_comm (a b c : R) : a * (b * c) = b * (a * c) := by rw [← mul_assoc, mul_comm a, mul_assoc]
theorem add_neg (a : R) : a + -a = 0 := by rw [add_comm, neg_add_cancel]
theorem cancel {a b c : R} (h : a + b = a + c) : b = c := by
  have h1 : -a + (a + b) = -a + (a + c) := by rw [h]
  rw [← add_assoc, ← add_assoc, neg_add_cancel, zero_add, zero_add] at h1
  exact h1
theorem mul_zero (a : R) : a * 0 = 0 := by
  have h : a * 0 + a * 0 = a * 0 + 0 := by rw [← left_distrib, add_zero, add_zero]
  exact cancel h
theorem zero_mul (a : R) : 0 * a = 0 := by rw [mul_comm, mul_zero]
theorem neg_of {a b : R} (h : a + b = 0) : b = -a := cancel (a := a) (by rw [h, add_neg])
theorem neg_neg (a : R) : - -a = a := (neg_of (neg_add_cancel a)).symm
theorem neg_zero : -(0 : R) = 0 := (neg_of (add_zero (0 : R))).symm
theorem neg_add (a b : R) : -(a + b) = -a + -b := (neg_of (by
  rw [add_assoc, add_left_comm b, add_neg, add_zero, add_neg])).symm
theorem neg_mul (a b : R) : -a * b = -(a * b) := neg_of (by rw [← right_distrib, add_neg, zero_mul])
theorem mul_neg (a b : R) : a * -b = -(a * b) := by rw [mul_comm, neg_mul, mul_comm]
theorem sub_self (a : R) : a - a = 0 := by rw [sub_eq, add_neg]
theorem eq_of_sub {a b : R} (h : a - b = 0) : a = b := by
  rw [sub_eq] at h
  have h1 := neg_of (a := -b) (by rw [add_comm, h])
  rw [h1, neg_neg]
theorem natCast_one : ((1 : Nat) : R) = 1 := by
  have h := cast_succ (R := R) 0
  rw [cast_zero, zero_add] at h
  exact h
theorem natCast_zero : ((0 : Nat) : R) = 0 := cast_zero
theorem natCast_add (a : Nat) : ∀ b : Nat, ((a + b : Nat) : R) = (a : R) + (b : R)
  | 0 => by rw [Nat.add_zero, cast_zero, add_zero]
  | b + 1 => by rw [← Nat.add_assoc, cast_succ, natCast_add a b, cast_succ, add_assoc]
theorem natCast_mul (a : Nat) : ∀ b : Nat, ((a * b : Nat) : R) = (a : R) * (b : R)
  | 0 => by rw [Nat.mul_zero, cast_zero, mul_zero]
  | b + 1 => by rw [Nat.mul_succ, natCast_add, natCast_mul a b, cast_succ, left_distrib, mul_one]
end CRg
/-! ### terms and their normal form -/
inductive Ex where
  | v (i : Nat)
  | n (k : Nat)
  | add (a b : Ex)
  | mul (a b : Ex)
  | neg (a : Ex)
  | sub (a b : Ex)
  | pow (a : Ex) (k : Nat)
namespace Ex
def insN (a : Nat) : List Nat → List Nat
  | [] => [a]
  | b :: l => cond (Nat.ble a b) (a :: b :: l) (b :: insN a l)
def mrgN : List Nat → List Nat → List Nat
  | [], l => l
  | a :: m, l => insN a (mrgN m l)
def eqN : List Nat → List Nat → Bool
  | [], [] => true
  | a :: l, b :: m => Nat.beq a b && eqN l m
  | _, _ => false
/-- sums of products: a coefficient is a difference of two numbers -/
def addT (t : (Nat × Nat) × List Nat) : List ((Nat × Nat) × List Nat) → List ((Nat × Nat) × List Nat)
  | [] => [t]
  | u :: P => cond (eqN t.2 u.2) (((t.1.1 + u.1.1, t.1.2 + u.1.2), u.2) :: P) (u :: addT t P)
def addP : List ((Nat × Nat) × List Nat) → List ((Nat × Nat) × List Nat) → List ((Nat × Nat) × List Nat)
  | [], Q => Q
  | t :: P, Q => addT t (addP P Q)
def mulT (t : (Nat × Nat) × List Nat) : List ((Nat × Nat) × List Nat) → List ((Nat × Nat) × List Nat)
  | [] => []
  | u :: Q => addT ((t.1.1 * u.1.1 + t.1.2 * u.1.2, t.1.1 * u.1.2 + t.1.2 * u.1.1), mrgN t.2 u.2) (mulT t Q)
def mulP : List ((Nat × Nat) × List Nat) → List ((Nat × Nat) × List Nat) → List ((Nat × Nat) × List Nat)
  | [], _ => []
  | t :: P, Q => addP (mulT t Q) (mulP P Q)
def negP : List ((Nat × Nat) × List Nat) → List ((Nat × Nat) × List Nat)
  | [] => []
  | t :: P => ((t.1.2, t.1.1), t.2) :: negP P
def powP (P : List ((Nat × Nat) × List Nat)) : Nat → List ((Nat × Nat) × List Nat)
  | 0 => [((1, 0), [])]
  | k + 1 => mulP (powP P k) P
def px : Ex → List ((Nat × Nat) × List Nat)
  | .v i => [((1, 0), [i])]
  | .n k => [((k, 0), [])]
  | .add a b => addP (px a) (px b)
  | .mul a b => mulP (px a) (px b)
  | .neg a => negP (px a)
  | .sub a b => addP (px a) (negP (px b))
  | .pow a k => powP (px a) k
def isZ : List ((Nat × Nat) × List Nat) → Bool
  | [] => true
  | t :: P => Nat.beq t.1.1 t.1.2 && isZ P
section
variable {R : Type} [CRg R]
open CRg
def vAt : List R → Nat → R
  | [], _ => 0
  | a :: _, 0 => a
  | _ :: l, i + 1 => vAt l i
def ev (ρ : List R) : Ex → R
  | .v i => vAt ρ i
  | .n k => (k : R)
  | .add a b => ev ρ a + ev ρ b
  | .mul a b => ev ρ a * ev ρ b
  | .neg a => -ev ρ a
  | .sub a b => ev ρ a - ev ρ b
  | .pow a k => ev ρ a ^ k
def evM (ρ : List R) : List Nat → R
  | [] => 1
  | i :: m => vAt ρ i * evM ρ m
def evC (c : Nat × Nat) : R := (c.1 : R) - (c.2 : R)
def evP (ρ : List R) : List ((Nat × Nat) × List Nat) → R
  | [] => 0
  | t :: P => evC t.1 * evM ρ t.2 + evP ρ P
theorem evC_add (a b c d : Nat) : (evC (a + c, b + d) : R) = evC (a, b) + evC (c, d) := by
  show ((a + c : Nat) : R) - ((b + d : Nat) : R) = ((a : R) - (b : R)) + ((c : R) - (d : R))
  rw [natCast_add, natCast_add, sub_eq, sub_eq, sub_eq, neg_add, add_assoc, add_assoc, add_left_comm (c : R)]
theorem evC_mul (a b c d : Nat) : (evC (a * c + b * d, a * d + b * c) : R) = evC (a, b) * evC (c, d) := by
  show ((a * c + b * d : Nat) : R) - ((a * d + b * c : Nat) : R) = ((a : R) - (b : R)) * ((c : R) - (d : R))
  rw [natCast_add, natCast_add, natCast_mul, natCast_mul, natCast_mul, natCast_mul, sub_eq, sub_eq, sub_eq, right_distrib, left_distrib, left_distrib, neg_add, mul_neg, neg_mul, neg_mul, mul_neg, neg_neg, add_assoc, add_assoc]
  congr 1
  rw [add_left_comm, add_comm ((b : R) * (d : R))]
theorem evC_neg (a b : Nat) : (evC (b, a) : R) = -evC (a, b) := by
  show (b : R) - (a : R) = -((a : R) - (b : R))
  rw [sub_eq, sub_eq, neg_add, neg_neg, add_comm]
theorem evC_one : (evC (1, 0) : R) = 1 := by
  show ((1 : Nat) : R) - ((0 : Nat) : R) = 1
  rw [natCast_one, cast_zero, sub_eq, neg_zero, add_zero]
theorem evM_ins (ρ : List R) (a : Nat) : ∀ l, evM ρ (insN a l) = vAt ρ a * evM ρ l
  | [] => rfl
  | b :: l => by
    show evM ρ (cond (Nat.ble a b) (a :: b :: l) (b :: insN a l)) = _
    rcases Nat.ble a b with _ | _
    · show vAt ρ b * evM ρ (insN a l) = vAt ρ a * (vAt ρ b * evM ρ l)
      rw [evM_ins ρ a l, mul_left_comm]
    · rfl
theorem evM_mrg (ρ : List R) : ∀ m l, evM ρ (mrgN m l) = evM ρ m * evM ρ l
  | [], l => (one_mul _).symm
  | a :: m, l => by
    show evM ρ (insN a (mrgN m l)) = vAt ρ a * evM ρ m * evM ρ l
    rw [evM_ins, evM_mrg ρ m l, mul_assoc]
theorem eqN_eq : ∀ {l m : List Nat}, eqN l m = true → l = m
  | [], [], _ => rfl
  | a :: l, b :: m, h => by
    have h1 : (Nat.beq a b && eqN l m) = true := h
    rw [Bool.and_eq_true] at h1
    rw [Nat.eq_of_beq_eq_true h1.1, eqN_eq h1.2]
  | [], _ :: _, h => Bool.noConfusion h
  | _ :: _, [], h => Bool.noConfusion h
theorem evP_addT (ρ : List R) (t : (Nat × Nat) × List Nat) : ∀ P, evP ρ (addT t P) = evC t.1 * evM ρ t.2 + evP ρ P
  | [] => rfl
  | u :: P => by
    show evP ρ (cond (eqN t.2 u.2) (((t.1.1 + u.1.1, t.1.2 + u.1.2), u.2) :: P) (u :: addT t P)) = _
    rcases hb : eqN t.2 u.2 with _ | _
    · show evC u.1 * evM ρ u.2 + evP ρ (addT t P) = evC t.1 * evM ρ t.2 + (evC u.1 * evM ρ u.2 + evP ρ P)
      rw [evP_addT ρ t P, add_left_comm]
    · show evC (t.1.1 + u.1.1, t.1.2 + u.1.2) * evM ρ u.2 + evP ρ P = evC t.1 * evM ρ t.2 + (evC u.1 * evM ρ u.2 + evP ρ P)
      rw [evC_add, eqN_eq hb, right_distrib, add_assoc]
theorem evP_addP (ρ : List R) : ∀ P Q, evP ρ (addP P Q) = evP ρ P + evP ρ Q
  | [], Q => (zero_add _).symm
  | t :: P, Q => by
    show evP ρ (addT t (addP P Q)) = evC t.1 * evM ρ t.2 + evP ρ P + evP ρ Q
    rw [evP_addT, evP_addP ρ P Q, add_assoc]
theorem evP_mulT (ρ : List R) (t : (Nat × Nat) × List Nat) : ∀ Q, evP ρ (mulT t Q) = evC t.1 * evM ρ t.2 * evP ρ Q
  | [] => (mul_zero _).symm
  | u :: Q => by
    show evP ρ (addT ((t.1.1 * u.1.1 + t.1.2 * u.1.2, t.1.1 * u.1.2 + t.1.2 * u.1.1), mrgN t.2 u.2) (mulT t Q)) = evC t.1 * evM ρ t.2 * (evC u.1 * evM ρ u.2 + evP ρ Q)
    rw [evP_addT, evP_mulT ρ t Q, left_distrib]
    congr 1
    show evC (t.1.1 * u.1.1 + t.1.2 * u.1.2, t.1.1 * u.1.2 + t.1.2 * u.1.1) * evM ρ (mrgN t.2 u.2) = evC (t.1.1, t.1.2) * evM ρ t.2 * (evC (u.1.1, u.1.2) * evM ρ u.2)
    rw [evC_mul, evM_mrg, mul_assoc, mul_assoc]
    congr 1
    rw [mul_left_comm]
theorem evP_mulP (ρ : List R) : ∀ P Q, evP ρ (mulP P Q) = evP ρ P * evP ρ Q
  | [], Q => (zero_mul _).symm
  | t :: P, Q => by
    show evP ρ (addP (mulT t Q) (mulP P Q)) = (evC t.1 * evM ρ t.2 + evP ρ P) * evP ρ Q
    rw [evP_addP, evP_mulT, evP_mulP ρ P Q, right_distrib]
theorem evP_negP (ρ : List R) : ∀ P, evP ρ (negP P) = -evP ρ P
  | [] => neg_zero.symm
  | t :: P => by
    show evC (t.1.2, t.1.1) * evM ρ t.2 + evP ρ (negP P) = -(evC (t.1.1, t.1.2) * evM ρ t.2 + evP ρ P)
    rw [evC_neg, evP_negP ρ P, neg_mul, neg_add]
theorem evP_one (ρ : List R) : evP ρ [((1, 0), [])] = 1 := by
  show evC (1, 0) * 1 + 0 = 1
  rw [evC_one, mul_one, add_zero]
theorem evP_powP (ρ : List R) (P : List ((Nat × Nat) × List Nat)) : ∀ k, evP ρ (powP P k) = evP ρ P ^ k
  | 0 => by rw [pow_zero]; exact evP_one ρ
  | k + 1 => by
    show evP ρ (mulP (powP P k) P) = _
    rw [evP_mulP, evP_powP ρ P k, pow_succ]
theorem px_ev (ρ : List R) : ∀ e : Ex, evP ρ e.px = e.ev ρ
  | .v i => by
    show evC (1, 0) * (vAt ρ i * 1) + 0 = vAt ρ i
    rw [evC_one, mul_one, one_mul, add_zero]
  | .n k => by
    show ((k : R) - ((0 : Nat) : R)) * 1 + 0 = (k : R)
    rw [cast_zero, sub_eq, neg_zero, add_zero, mul_one, add_zero]
  | .add a b => by
    show evP ρ (addP a.px b.px) = a.ev ρ + b.ev ρ
    rw [evP_addP, px_ev ρ a, px_ev ρ b]
  | .mul a b => by
    show evP ρ (mulP a.px b.px) = a.ev ρ * b.ev ρ
    rw [evP_mulP, px_ev ρ a, px_ev ρ b]
  | .neg a => by
    show evP ρ (negP a.px) = -a.ev ρ
    rw [evP_negP, px_ev ρ a]
  | .sub a b => by
    show evP ρ (addP a.px (negP b.px)) = a.ev ρ - b.ev ρ
    rw [evP_addP, evP_negP, px_ev ρ a, px_ev ρ b, sub_eq]
  | .pow a k => by
    show evP ρ (powP a.px k) = a.ev ρ ^ k
    rw [evP_powP, px_ev ρ a]
theorem isZ_ev (ρ : List R) : ∀ P, isZ P = true → evP ρ P = 0
  | [], _ => rfl
  | t :: P, h => by
    have h1 : (Nat.beq t.1.1 t.1.2 && isZ P) = true := h
    rw [Bool.and_eq_true] at h1
    show ((t.1.1 : R) - (t.1.2 : R)) * evM ρ t.2 + evP ρ P = 0
    rw [Nat.eq_of_beq_eq_true h1.1, sub_self, zero_mul, isZ_ev ρ P h1.2, add_zero]
end
end Ex
/-! ### terms read off -/
class Lk {R : Type} [CRg R] (ρ : List R) (x : R) (i : outParam Nat) : Prop where
  eq : Ex.vAt ρ i = x
class Qt {R : Type} [CRg R] (ρ : List R) (x : R) (e : outParam Ex) : Prop where
  eq : e.ev ρ = x
section
variable {R : Type} [CRg R] {ρ : List R} {x y : R}
instance (priority := low) lkS {i : Nat} [h : Lk ρ x i] : Lk (y :: ρ) x (i + 1) := ⟨h.eq⟩
instance lk0 : Lk (x :: ρ) x 0 := ⟨rfl⟩
instance (priority := low) qtV {i : Nat} [h : Lk ρ x i] : Qt ρ x (.v i) := ⟨h.eq⟩
instance qt0 : Qt ρ (0 : R) (.n 0) := ⟨(CRg.num_eq 0).symm⟩
instance qt1 : Qt ρ (1 : R) (.n 1) := ⟨(CRg.num_eq 1).symm⟩
instance qt2 : Qt ρ (2 : R) (.n 2) := ⟨(CRg.num_eq 2).symm⟩
instance qtA {e f : Ex} [h : Qt ρ x e] [k : Qt ρ y f] : Qt ρ (x + y) (.add e f) := ⟨by
  show e.ev ρ + f.ev ρ = _
  rw [h.eq, k.eq]⟩
instance qtM {e f : Ex} [h : Qt ρ x e] [k : Qt ρ y f] : Qt ρ (x * y) (.mul e f) := ⟨by
  show e.ev ρ * f.ev ρ = _
  rw [h.eq, k.eq]⟩
instance qtS {e f : Ex} [h : Qt ρ x e] [k : Qt ρ y f] : Qt ρ (x - y) (.sub e f) := ⟨by
  show e.ev ρ - f.ev ρ = _
  rw [h.eq, k.eq]⟩
instance qtG {e : Ex} [h : Qt ρ x e] : Qt ρ (-x) (.neg e) := ⟨by
  show -e.ev ρ = _
  rw [h.eq]⟩
instance qtP {e : Ex} {k : Nat} [h : Qt ρ x e] : Qt ρ (x ^ k) (.pow e k) := ⟨by
  show e.ev ρ ^ k = _
  rw [h.eq]⟩
/-- two terms with one normal form -/
theorem rg0 (ρ : List R) {x y : R} {e f : Ex} [h : Qt ρ x e] [k : Qt ρ y f] (hz : Ex.isZ (Ex.px (.sub e f)) = true) : x = y := by
  have h1 := Ex.isZ_ev ρ _ hz
  rw [Ex.px_ev] at h1
  have h2 : e.ev ρ - f.ev ρ = 0 := h1
  rw [h.eq, k.eq] at h2
  exact CRg.eq_of_sub h2
/-- .. behind an equation, taken c times -/
theorem rg1 (ρ : List R) {x y a b : R} (he : a = b) (c : R) {e f g k m : Ex} [q1 : Qt ρ x e] [q2 : Qt ρ y f] [q3 : Qt ρ a g] [q4 : Qt ρ b k] [q5 : Qt ρ c m] (hz : Ex.isZ (Ex.px (.sub (.sub e f) (.mul m (.sub g k)))) = true) : x = y := by
  have h1 := Ex.isZ_ev ρ _ hz
  rw [Ex.px_ev] at h1
  have h2 : e.ev ρ - f.ev ρ - m.ev ρ * (g.ev ρ - k.ev ρ) = 0 := h1
  rw [q1.eq, q2.eq, q3.eq, q4.eq, he, CRg.sub_self, CRg.mul_zero, CRg.sub_eq, CRg.neg_zero, CRg.add_zero] at h2
  exact CRg.eq_of_sub h2
/-- .. behind two equations -/
theorem rg2 (ρ : List R) {x y a b a' b' : R} (he : a = b) (c : R) (he' : a' = b') (c' : R) {e f g k m g' k' m' : Ex} [q1 : Qt ρ x e] [q2 : Qt ρ y f] [q3 : Qt ρ a g] [q4 : Qt ρ b k] [q5 : Qt ρ c m] [q6 : Qt ρ a' g'] [q7 : Qt ρ b' k'] [q8 : Qt ρ c' m']
    (hz : Ex.isZ (Ex.px (.sub (.sub e f) (.add (.mul m (.sub g k)) (.mul m' (.sub g' k'))))) = true) : x = y := by
  have h1 := Ex.isZ_ev ρ _ hz
  rw [Ex.px_ev] at h1
  have h2 : e.ev ρ - f.ev ρ - (m.ev ρ * (g.ev ρ - k.ev ρ) + m'.ev ρ * (g'.ev ρ - k'.ev ρ)) = 0 := h1
  rw [q1.eq, q2.eq, q3.eq, q4.eq, q6.eq, q7.eq, he, he', CRg.sub_self, CRg.sub_self, CRg.mul_zero, CRg.mul_zero, CRg.add_zero, CRg.sub_eq, CRg.neg_zero, CRg.add_zero] at h2
  exact CRg.eq_of_sub h2
/-- .. behind three equations -/
theorem rg3 (ρ : List R) {x y a b a' b' a'' b'' : R} (he : a = b) (c : R) (he' : a' = b') (c' : R) (he'' : a'' = b'') (c'' : R) {e f g k m g' k' m' g'' k'' m'' : Ex} [q1 : Qt ρ x e] [q2 : Qt ρ y f] [q3 : Qt ρ a g] [q4 : Qt ρ b k] [q5 : Qt ρ c m] [q6 : Qt ρ a' g'] [q7 : Qt ρ b' k'] [q8 : Qt ρ c' m'] [q9 : Qt ρ a'' g''] [q10 : Qt ρ b'' k''] [q11 : Qt ρ c'' m'']
    (hz : Ex.isZ (Ex.px (.sub (.sub e f) (.add (.mul m (.sub g k)) (.add (.mul m' (.sub g' k')) (.mul m'' (.sub g'' k'')))))) = true) : x = y := by
  have h1 := Ex.isZ_ev ρ _ hz
  rw [Ex.px_ev] at h1
  have h2 : e.ev ρ - f.ev ρ - (m.ev ρ * (g.ev ρ - k.ev ρ) + (m'.ev ρ * (g'.ev ρ - k'.ev ρ) + m''.ev ρ * (g''.ev ρ - k''.ev ρ))) = 0 := h1
  rw [q1.eq, q2.eq, q3.eq, q4.eq, q6.eq, q7.eq, q9.eq, q10.eq, he, he', he'', CRg.sub_self, CRg.sub_self, CRg.sub_self, CRg.mul_zero, CRg.mul_zero, CRg.mul_zero, CRg.add_zero, CRg.add_zero, CRg.sub_eq, CRg.neg_zero, CRg.add_zero] at h2
  exact CRg.eq_of_sub h2
end
section
variable {R : Type} [CRg R]
theorem rg_test1 (A B C : R) : (A + B * 2) * (A - C) = A ^ 2 + 2 * A * B - C * A - 2 * B * C := rg0 [A, B, C] (by decide +kernel)
theorem rg_test2 (A B C : R) (h : A * B = 1) (k : C * B = 0) : C = 0 := rg2 [A, B, C] h (-C) k A (by decide +kernel)
end
end Go.Proofs.Ytkklacgoeopekaa

namespace Go.Proofs.Ytkklacgoeopekaa
open Go.RowKit
set_option linter.unusedVariables false

namespace Rg
variable {R : Type} [CRg R]
theorem pow_add (x : R) (a : Nat) : ∀ b, x ^ (a + b) = x ^ a * x ^ b
  | 0 => by rw [Nat.add_zero, CRg.pow_zero, CRg.mul_one]
  | b + 1 => by rw [← Nat.add_assoc, CRg.pow_succ, pow_add x a b, CRg.pow_succ, CRg.mul_assoc]
theorem pow_mul (x : R) (a : Nat) : ∀ b, x ^ (a * b) = (x ^ a) ^ b
  | 0 => by rw [Nat.mul_zero, CRg.pow_zero, CRg.pow_zero]
  | b + 1 => by rw [Nat.mul_succ, pow_add, pow_mul x a b, CRg.pow_succ]
theorem one_pow : ∀ b : Nat, (1 : R) ^ b = 1
  | 0 => CRg.pow_zero _
  | b + 1 => by rw [CRg.pow_succ, one_pow b, CRg.mul_one]
theorem mul_pow (x y : R) : ∀ b : Nat, (x * y) ^ b = x ^ b * y ^ b
  | 0 => by rw [CRg.pow_zero, CRg.pow_zero, CRg.pow_zero, CRg.mul_one]
  | b + 1 => by
    rw [CRg.pow_succ, mul_pow x y b, CRg.pow_succ, CRg.pow_succ]
    generalize x ^ b = A
    generalize y ^ b = B
    exact rg0 [A, B, x, y] (by decide +kernel)
theorem cast_add (a b : Nat) : ((a + b : Nat) : R) = (a : R) + (b : R) := CRg.natCast_add a b
theorem cast_mul (a b : Nat) : ((a * b : Nat) : R) = (a : R) * (b : R) := CRg.natCast_mul a b
theorem cast_one : ((1 : Nat) : R) = 1 := CRg.natCast_one
theorem cast_zero : ((0 : Nat) : R) = 0 := CRg.natCast_zero
theorem cast_pow (a : Nat) : ∀ b : Nat, ((a ^ b : Nat) : R) = (a : R) ^ b
  | 0 => by rw [Nat.pow_zero, CRg.pow_zero, cast_one]
  | b + 1 => by rw [Nat.pow_succ, cast_mul, cast_pow a b, CRg.pow_succ]
theorem cast_mod {p : Nat} (hp : (p : R) = 0) (a : Nat) : ((a % p : Nat) : R) = (a : R) := by
  have h := Nat.div_add_mod a p
  have h2 : ((p * (a / p) + a % p : Nat) : R) = (a : R) := by rw [h]
  rw [cast_add, cast_mul, hp] at h2
  rw [← h2]
  rw [CRg.zero_mul, CRg.zero_add]
def rsum (x : R) (n : Nat) : Nat → R
  | 0 => ((Mr.C n 0 : Nat) : R)
  | k + 1 => rsum x n k + ((Mr.C n (k + 1) : Nat) : R) * x ^ (k + 1)
theorem rsum_succ (x : R) (n : Nat) : ∀ k, rsum x (n + 1) (k + 1) = rsum x n (k + 1) + x * rsum x n k
  | 0 => by
    show ((Mr.C (n + 1) 0 : Nat) : R) + ((Mr.C n 0 + Mr.C n 1 : Nat) : R) * x ^ (0 + 1) = (((Mr.C n 0 : Nat) : R) + ((Mr.C n 1 : Nat) : R) * x ^ (0 + 1)) + x * ((Mr.C n 0 : Nat) : R)
    rw [cast_add, show Mr.C (n + 1) 0 = 1 by simp [Mr.C], show Mr.C n 0 = 1 by cases n <;> rfl]
    rw [cast_one]
    generalize ((Mr.C n 1 : Nat) : R) = E
    exact rg0 [E, x] (by decide +kernel)
  | k + 1 => by
    have ih := rsum_succ x n k
    show rsum x (n + 1) (k + 1) + ((Mr.C n (k + 1) + Mr.C n (k + 1 + 1) : Nat) : R) * x ^ (k + 1 + 1) = (rsum x n (k + 1) + ((Mr.C n (k + 1 + 1) : Nat) : R) * x ^ (k + 1 + 1)) + x * (rsum x n k + ((Mr.C n (k + 1) : Nat) : R) * x ^ (k + 1))
    rw [ih, cast_add, CRg.pow_succ x (k + 1)]
    generalize rsum x n (k + 1) = A
    generalize rsum x n k = B
    generalize x ^ (k + 1) = D
    generalize ((Mr.C n (k + 1) : Nat) : R) = E
    generalize ((Mr.C n (k + 1 + 1) : Nat) : R) = F
    exact rg0 [A, B, D, E, F, x] (by decide +kernel)
theorem rsum_full (x : R) : ∀ n, rsum x n n = (x + 1) ^ n
  | 0 => by
    show ((1 : Nat) : R) = _
    rw [cast_one, CRg.pow_zero]
  | n + 1 => by
    rw [rsum_succ]
    show (rsum x n n + ((Mr.C n (n + 1) : Nat) : R) * x ^ (n + 1)) + x * rsum x n n = _
    rw [Mr.C_big n (n + 1) (by omega), cast_zero, rsum_full x n, CRg.pow_succ (x + 1)]
    generalize (x + 1) ^ n = A
    generalize x ^ (n + 1) = B
    exact rg0 [A, B, x] (by decide +kernel)
theorem rsum_mod {p : Nat} (hp : Mr.Pr p) (h0 : (p : R) = 0) (x : R) : ∀ k, k < p → rsum x p k = 1
  | 0, _ => by
    show ((Mr.C p 0 : Nat) : R) = 1
    rw [show Mr.C p 0 = 1 by cases p <;> rfl, cast_one]
  | k + 1, h => by
    have hd : p ∣ Mr.C p (k + 1) := by
      obtain ⟨q, rfl⟩ : ∃ q, p = q + 1 := ⟨p - 1, by have := hp.1; omega⟩
      have h1 : (q + 1) ∣ (k + 1) * Mr.C (q + 1) (k + 1) := by rw [Mr.C_succ]; exact Nat.dvd_mul_right _ _
      rcases hp.dvd_mul h1 with h2 | h2
      · have := Nat.le_of_dvd (by omega) h2; omega
      · exact h2
    obtain ⟨c, hc⟩ := hd
    show rsum x p k + ((Mr.C p (k + 1) : Nat) : R) * x ^ (k + 1) = 1
    rw [hc, cast_mul, h0, rsum_mod hp h0 x k (by omega)]
    rw [CRg.zero_mul, CRg.zero_mul, CRg.add_zero]
theorem frob1 {p : Nat} (hp : Mr.Pr p) (h0 : (p : R) = 0) (x : R) : (x + 1) ^ p = x ^ p + 1 := by
  rw [← rsum_full]
  obtain ⟨q, hq⟩ : ∃ q, p = q + 1 := ⟨p - 1, by have := hp.1; omega⟩
  have h2 := rsum_mod hp h0 x q (by omega)
  have h3 : rsum x p p = rsum x p q + ((Mr.C p p : Nat) : R) * x ^ p := by
    have h4 : ∀ m, m = q + 1 → rsum x p m = rsum x p q + ((Mr.C p m : Nat) : R) * x ^ m := fun m e => by
      subst e
      rfl
    exact h4 p hq
  rw [h3, h2, Mr.C_self, cast_one]
  rw [CRg.one_mul, CRg.add_comm]
theorem frob {p : Nat} (hp : Mr.Pr p) (h0 : (p : R) = 0) (x : R) : ∀ c : Nat, (x + (c : R)) ^ p = x ^ p + (c : R)
  | 0 => by rw [cast_zero, CRg.add_zero, CRg.add_zero]
  | c + 1 => by
    rw [cast_add, cast_one, ← CRg.add_assoc, frob1 hp h0, frob hp h0 x c, CRg.add_assoc]
theorem frobs {p : Nat} (hp : Mr.Pr p) (h0 : (p : R) = 0) (x : R) (c : Nat) : ∀ j, (x + (c : R)) ^ (p ^ j) = x ^ (p ^ j) + (c : R)
  | 0 => by
    have h1 : ∀ z : R, z ^ 1 = z := fun z => by exact rg0 [z] (by decide +kernel)
    rw [Nat.pow_zero, h1, h1]
  | j + 1 => by rw [Nat.pow_succ, pow_mul, frobs hp h0 x c j, frob hp h0, ← pow_mul]
/-- a product -/
def lprod : List R → R
  | [] => 1
  | a :: l => a * lprod l
theorem lprod_perm {l m : List R} (h : l.Perm m) : lprod l = lprod m := by
  induction h with
  | nil => rfl
  | cons a _ ih => show a * _ = a * _; rw [ih]
  | swap a b l => show b * (a * lprod l) = a * (b * lprod l); generalize lprod l = L; exact rg0 [a, b, L] (by decide +kernel)
  | trans _ _ h1 h2 => rw [h1, h2]
theorem lprod_append (l m : List R) : lprod (l ++ m) = lprod l * lprod m := by
  induction l with
  | nil => show lprod m = 1 * lprod m; exact (CRg.one_mul _).symm
  | cons a l ih => show a * lprod (l ++ m) = a * lprod l * lprod m; rw [ih]; exact (CRg.mul_assoc _ _ _).symm
/-- the product over the exponents -/
def pe (x : R) (c : Nat) (l : List Nat) : R := lprod (l.map fun k => x ^ k + (c : R))
theorem pe_perm {x : R} {c : Nat} {l m : List Nat} (h : l.Perm m) : pe x c l = pe x c m := lprod_perm (h.map _)
theorem pow_per {x : R} {n : Nat} (hx : x ^ n = -1) (k : Nat) : x ^ (k % (2 * n)) = x ^ k := by
  have h1 : x ^ (2 * n) = 1 := by
    rw [Nat.mul_comm, pow_mul, hx]
    exact rg0 ([] : List R) (by decide +kernel)
  conv => rhs; rw [← Nat.div_add_mod k (2 * n), pow_add, pow_mul, h1, one_pow]
  exact (CRg.one_mul _).symm
theorem pe_mod {x : R} {n : Nat} (hx : x ^ n = -1) (c : Nat) (l : List Nat) : pe x c (l.map (· % (2 * n))) = pe x c l := by
  unfold pe
  rw [List.map_map]
  congr 1
  refine List.map_congr_left fun k _ => ?_
  show x ^ (k % (2 * n)) + (c : R) = _
  rw [pow_per hx]
/-- the exponents in arithmetic progression -/
def prog (n e : Nat) : List Nat := (List.range e).map fun t => 1 + 2 * n / e * t
def sgnN (e : Nat) (c : Nat) (x : R) : R := if e = 1 then x + (c : R) else (c : R) ^ e - x ^ e
theorem pe_prog {x : R} {n e : Nat} (he : e = 1 ∨ e = 2 ∨ e = 4 ∨ e = 8) (hn : e ∣ n) (hx : x ^ n = -1) (c : Nat) : pe x c (prog n e) = sgnN e c x := by
  obtain ⟨k, rfl⟩ := hn
  have hk : ∀ t, x ^ (1 + 2 * k * t) = x * (x ^ (2 * k)) ^ t := fun t => by
    rw [pow_add, pow_mul]
    congr 1
    exact rg0 [x] (by decide +kernel)
  have hd : 0 < e → 2 * (e * k) / e = 2 * k := fun h => by rw [Nat.mul_left_comm, Nat.mul_div_cancel_left _ h]
  have hw : ∀ f, e = 2 * f → (x ^ (2 * k)) ^ f = -1 := fun f hf => by
    rw [← pow_mul, ← hx, hf]
    congr 1
    grind
  unfold pe prog sgnN
  rcases he with rfl | rfl | rfl | rfl
  · rw [if_pos rfl, hd (by omega)]
    show lprod [x ^ (1 + 2 * k * 0) + (c : R)] = _
    rw [hk]
    show (x * (x ^ (2 * k)) ^ 0 + (c : R)) * 1 = _
    generalize x ^ (2 * k) = w
    generalize (c : R) = C
    exact rg0 [x, w, C] (by decide +kernel)
  · rw [if_neg (by omega), hd (by omega)]
    have h1 := hw 1 rfl
    show lprod [x ^ (1 + 2 * k * 0) + (c : R), x ^ (1 + 2 * k * 1) + (c : R)] = _
    rw [hk, hk]
    generalize x ^ (2 * k) = w at h1 ⊢
    show (x * w ^ 0 + (c : R)) * ((x * w ^ 1 + (c : R)) * 1) = _
    generalize (c : R) = C
    exact rg1 [x, w, C] h1 (x ^ 2 + x * C) (by decide +kernel)
  · rw [if_neg (by omega), hd (by omega)]
    have h1 := hw 2 rfl
    show lprod [x ^ (1 + 2 * k * 0) + (c : R), x ^ (1 + 2 * k * 1) + (c : R), x ^ (1 + 2 * k * 2) + (c : R), x ^ (1 + 2 * k * 3) + (c : R)] = _
    rw [hk, hk, hk, hk]
    generalize x ^ (2 * k) = w at h1 ⊢
    show (x * w ^ 0 + (c : R)) * ((x * w ^ 1 + (c : R)) * ((x * w ^ 2 + (c : R)) * ((x * w ^ 3 + (c : R)) * 1))) = _
    generalize (c : R) = C
    have e1 : (x * w ^ 0 + C) * (x * w ^ 2 + C) = C ^ 2 - x ^ 2 := rg1 [x, w, C] h1 (x ^ 2 + x * C) (by decide +kernel)
    have e2 : (x * w ^ 1 + C) * (x * w ^ 3 + C) = C ^ 2 - x ^ 2 * w ^ 2 := rg1 [x, w, C] h1 (x ^ 2 * w ^ 2 + x * w * C) (by decide +kernel)
    exact rg3 [x, w, C] e1 ((x * w ^ 1 + C) * (x * w ^ 3 + C)) e2 (C ^ 2 - x ^ 2) h1 (x ^ 4 - x ^ 2 * C ^ 2) (by decide +kernel)
  · rw [if_neg (by omega), hd (by omega)]
    have h1 := hw 4 rfl
    show lprod [x ^ (1 + 2 * k * 0) + (c : R), x ^ (1 + 2 * k * 1) + (c : R), x ^ (1 + 2 * k * 2) + (c : R), x ^ (1 + 2 * k * 3) + (c : R), x ^ (1 + 2 * k * 4) + (c : R), x ^ (1 + 2 * k * 5) + (c : R), x ^ (1 + 2 * k * 6) + (c : R), x ^ (1 + 2 * k * 7) + (c : R)] = _
    rw [hk, hk, hk, hk, hk, hk, hk, hk]
    generalize x ^ (2 * k) = w at h1 ⊢
    show (x * w ^ 0 + (c : R)) * ((x * w ^ 1 + (c : R)) * ((x * w ^ 2 + (c : R)) * ((x * w ^ 3 + (c : R)) * ((x * w ^ 4 + (c : R)) * ((x * w ^ 5 + (c : R)) * ((x * w ^ 6 + (c : R)) * ((x * w ^ 7 + (c : R)) * 1))))))) = _
    generalize (c : R) = C
    have e1 : (x * w ^ 0 + C) * (x * w ^ 4 + C) = C ^ 2 - x ^ 2 := rg1 [x, w, C] h1 (x ^ 2 + x * C) (by decide +kernel)
    have e2 : (x * w ^ 1 + C) * (x * w ^ 5 + C) = C ^ 2 - x ^ 2 * w ^ 2 := rg1 [x, w, C] h1 (x ^ 2 * w ^ 2 + x * w * C) (by decide +kernel)
    have e3 : (x * w ^ 2 + C) * (x * w ^ 6 + C) = C ^ 2 - x ^ 2 * w ^ 4 := rg1 [x, w, C] h1 (x ^ 2 * w ^ 4 + x * w ^ 2 * C) (by decide +kernel)
    have e4 : (x * w ^ 3 + C) * (x * w ^ 7 + C) = C ^ 2 - x ^ 2 * w ^ 6 := rg1 [x, w, C] h1 (x ^ 2 * w ^ 6 + x * w ^ 3 * C) (by decide +kernel)
    have f1 : (C ^ 2 - x ^ 2) * (C ^ 2 - x ^ 2 * w ^ 4) = C ^ 4 - x ^ 4 := rg1 [x, w, C] h1 (x ^ 4 - x ^ 2 * C ^ 2) (by decide +kernel)
    have f2 : (C ^ 2 - x ^ 2 * w ^ 2) * (C ^ 2 - x ^ 2 * w ^ 6) = C ^ 4 - x ^ 4 * w ^ 4 := rg1 [x, w, C] h1 (x ^ 4 * w ^ 4 - x ^ 2 * w ^ 2 * C ^ 2) (by decide +kernel)
    calc _ = ((x * w ^ 0 + C) * (x * w ^ 4 + C)) * ((x * w ^ 1 + C) * (x * w ^ 5 + C)) * (((x * w ^ 2 + C) * (x * w ^ 6 + C)) * ((x * w ^ 3 + C) * (x * w ^ 7 + C))) := rg0 [x, w, C] (by decide +kernel)
      _ = (C ^ 2 - x ^ 2) * (C ^ 2 - x ^ 2 * w ^ 2) * ((C ^ 2 - x ^ 2 * w ^ 4) * (C ^ 2 - x ^ 2 * w ^ 6)) := by rw [e1, e2, e3, e4]
      _ = _ := rg3 [x, w, C] f1 ((C ^ 2 - x ^ 2 * w ^ 2) * (C ^ 2 - x ^ 2 * w ^ 6)) f2 (C ^ 4 - x ^ 4) h1 (x ^ 8 - x ^ 4 * C ^ 4) (by decide +kernel)
end Rg
end Go.Proofs.Ytkklacgoeopekaa

namespace Go.Proofs.Ytkklacgoeopekaa
open Go.RowKit
set_option linter.unusedVariables false

/-- f x, x reckoned first -/
def frc {α : Type} (x : Nat) (f : Nat → α) : α := @Nat.rec (fun _ => α) (f 0) (fun n _ => f (Nat.succ n)) x
theorem frc_eq {α : Type} (x : Nat) (f : Nat → α) : frc x f = f x := by cases x <;> rfl
/-- the power a^k modulo p, in two leaps -/
def pw (a k p : Nat) : Nat := frc (a ^ (k / 256) % p) fun b => (b ^ 256 * a ^ (k % 256)) % p
theorem pw_eq (a k p : Nat) : pw a k p = a ^ k % p := by
  unfold pw
  rw [frc_eq, Nat.mul_mod, ← Nat.pow_mod, ← Nat.mul_mod, ← Nat.pow_mul, ← Nat.pow_add]
  congr 2
  omega
/-- the order of r modulo 2 n -/
def dGo (N r : Nat) (fuel : Nat) : Nat → Nat → Nat := @Nat.rec (fun _ => Nat → Nat → Nat) (fun _ d => d) (fun _ ih x d => cond (Nat.beq x 1) d (frc (x * r % N) fun y => frc (d + 1) fun e => ih y e)) fuel
def dOf (n r : Nat) : Nat := dGo (2 * n) r 16 r 1
/-- a + b y, squared; k times, then handed on -/
def pit (p τ δ : Nat) (k : Nat) : Nat → Nat → Bool := @Nat.rec (fun _ => Nat → Nat → Bool) (fun a b => Nat.beq (a + 1) p && Nat.beq b 0) (fun _ ih a b => frc ((a * a + b * b * δ) % p) fun c => frc ((2 * a * b + b * b * τ) % p) fun d => ih c d) k
/-- the least number from g on that is no square -/
def nrGo (p h : Nat) (fuel : Nat) : Nat → Nat := @Nat.rec (fun _ => Nat → Nat) (fun g => g) (fun _ ih g => cond (Nat.beq (pw g h p) 1) (frc (g + 1) ih) g) fuel
def sqr (p a : Nat) : Nat := pw a ((p + 1) / 4) p
def tLast (p δ : Nat) : List Nat → List (Nat × Nat)
  | [] => []
  | v :: l => frc (sqr p ((v + 2 * p - 2 * δ) % p)) fun s => frc (p - s) fun u => (s, δ) :: (u, δ) :: tLast p δ l
def tStep (p : Nat) : List Nat → List Nat
  | [] => []
  | v :: l => frc (sqr p ((v + 2) % p)) fun s => frc (p - s) fun u => s :: u :: tStep p l
def tGo (p δ : Nat) (k : Nat) : List Nat → List (Nat × Nat) := @Nat.rec (fun _ => List Nat → List (Nat × Nat)) (fun l => tLast p δ l) (fun _ ih l => ih (tStep p l)) k
def zGo (p z : Nat) (k : Nat) : Nat → List (Nat × Nat) := @Nat.rec (fun _ => Nat → List (Nat × Nat)) (fun _ => []) (fun _ ih w => (0, w) :: frc (w * z % p * z % p) ih) k
/-- the pairs (τ, δ) -/
def tOf (p m : Nat) : List (Nat × Nat) :=
  cond (Nat.beq (p % 4) 1) (frc (nrGo p ((p - 1) / 2) 60 2) fun g => frc (pw g ((p - 1) / (2 * m)) p) fun z => zGo p z m z)
    (cond (Nat.beq m 1) (frc (p - 1) fun q => [(0, q)]) (frc (cond (Nat.beq (p % (4 * m)) (2 * m - 1)) 1 (p - 1)) fun δ => tGo p δ (Nat.log2 m - 1) [0]))
def kapN (p e k1 k0 A B c : Nat) : Bool := frc ((c ^ (2 * e) + A * c ^ e + B) % p) fun a => frc (a ^ k1 % p) fun b => Nat.beq ((b ^ 256 * a ^ k0) % p) 1
def sgN (p e k1 k0 A B : Nat) (C : Nat) : Nat := @Nat.rec (fun _ => Nat) 0 (fun k ih => 2 * ih + cond (kapN p e k1 k0 A B (Nat.succ k)) 1 0) C
def sgL (p e k1 k0 C : Nat) : List (Nat × Nat) → List Nat
  | [] => []
  | (τ, δ) :: l => frc (cond (Nat.beq e 1) (p - (p - τ) % p) ((p - τ) % p)) fun A => frc ((p - δ) % p) fun B => frc (sgN p e k1 k0 A B C) fun s => s :: sgL p e k1 k0 C l
def nin (a : Nat) : List Nat → Bool
  | [] => true
  | b :: l => cond (Nat.beq a b) false (nin a l)
def dis : List Nat → Bool
  | [] => true
  | a :: l => nin a l && dis l
def sepC (p e : Nat) (T : List (Nat × Nat)) (C : Nat) : Bool := Nat.ble (C + 1) p && frc ((p - 1) / 2 / 256) fun k1 => frc ((p - 1) / 2 % 256) fun k0 => dis (sgL p e k1 k0 C T)
/-- of one pair -/
def tChk (p m : Nat) (t : Nat × Nat) : Bool :=
  Nat.ble (t.1 + 1) p && (Nat.ble (t.2 + 1) p && (pit p t.1 t.2 (Nat.log2 m + 1) 0 1 &&
    (cond (Nat.beq (p % (4 * m)) (2 * m + 1)) (Nat.beq t.1 0) (cond (Nat.beq (p % (4 * m)) (2 * m - 1)) (Nat.beq t.2 1) (Nat.beq (t.2 + 1) p)))))
def tAll (p m : Nat) : List (Nat × Nat) → Bool
  | [] => true
  | t :: l => tChk p m t && tAll p m l
def good1 (p e m : Nat) (T : List (Nat × Nat)) : Bool :=
  Nat.beq T.length m && (tAll p m T && ((cond (Nat.ble m 2) (sepC p e T (m - 1)) false) || (sepC p e T 6 || (sepC p e T 12 || sepC p e T (Nat.min (p - 1) 20)))))
def good (p n : Nat) : Bool := frc (p % (2 * n)) fun r => frc (dOf n r) fun d => cond (Nat.beq d 1) true (frc (d / 2) fun e => frc (n / d) fun m => good1 p e m (tOf p m))
def good5 (p : Nat) : Bool := good p 2 && (good p 4 && (good p 8 && (good p 16 && good p 32)))
def pr54 : List Nat := [2, 3, 5, 7, 11, 13, 17, 19, 23, 29, 31, 37, 41, 43, 47, 53, 59, 61, 67, 71, 73, 79, 83, 89, 97, 101, 103, 107, 109, 113, 127, 131, 137, 139, 149, 151, 157, 163, 167, 173, 179, 181, 191, 193, 197, 199, 211, 223, 227, 229, 233, 239, 241, 251]
def prP : Nat := 64266330917908644872330635228106713310880186591609208114244758680898150367880703152525200743234420230
def isP (p : Nat) : Bool := cond (Nat.ble p 255) (pr54.elem p) (Nat.beq (Nat.gcd p 64266330917908644872330635228106713310880186591609208114244758680898150367880703152525200743234420230) 1)
/-- the odd numbers from p on -/
def gRun (k : Nat) : Nat → Bool := @Nat.rec (fun _ => Nat → Bool) (fun _ => true) (fun _ ih p => cond (isP p) (good5 p) true && frc (p + 2) ih) k
def gAll (lo : Nat) (k : Nat) : Bool := @Nat.rec (fun _ => Bool) true (fun k ih => frc (256 * (lo + k) + 3) (gRun 128) && ih) k
end Go.Proofs.Ytkklacgoeopekaa

namespace Go.Proofs.Ytkklacgoeopekaa
open Go.RowKit
set_option linter.unusedVariables false

namespace Rg
variable {R : Type} [CRg R]
theorem pow_one' (x : R) : x ^ 1 = x := rg0 [x] (by decide +kernel)
theorem cast_sub {p a : Nat} (h0 : (p : R) = 0) (h : a ≤ p) : ((p - a : Nat) : R) = -(a : R) := by
  have h1 : ((p - a + a : Nat) : R) = 0 := by rw [Nat.sub_add_cancel h]; exact h0
  rw [cast_add] at h1
  generalize ((p - a : Nat) : R) = A at h1 ⊢
  generalize (a : R) = B at h1 ⊢
  exact rg1 [A, B] h1 (1) (by decide +kernel)
theorem cast_two : ((2 : Nat) : R) = 2 := by
  rw [show (2 : Nat) = 1 + 1 from rfl, cast_add, cast_one]
  exact rg0 ([] : List R) (by decide +kernel)
/-- squared k times -/
theorem pit_sound {p τ δ : Nat} {y : R} (h0 : (p : R) = 0) (hy : y * y = (τ : R) * y + (δ : R)) : ∀ (k a b : Nat), pit p τ δ k a b = true → ((a : R) + (b : R) * y) ^ (2 ^ k) = -1
  | 0, a, b, h => by
    have h1 : (Nat.beq (a + 1) p && Nat.beq b 0) = true := h
    rw [Bool.and_eq_true] at h1
    have h2 := Nat.eq_of_beq_eq_true h1.1
    have h3 := Nat.eq_of_beq_eq_true h1.2
    have h4 : ((a + 1 : Nat) : R) = 0 := by rw [h2]; exact h0
    rw [cast_add, cast_one] at h4
    rw [h3, cast_zero, Nat.pow_zero, pow_one']
    generalize (a : R) = A at h4 ⊢
    exact rg1 [A, y] h4 (1) (by decide +kernel)
  | k + 1, a, b, h => by
    have h1 : (frc ((a * a + b * b * δ) % p) fun c => frc ((2 * a * b + b * b * τ) % p) fun d => pit p τ δ k c d) = true := h
    rw [frc_eq, frc_eq] at h1
    have ih := pit_sound h0 hy k _ _ h1
    rw [cast_mod h0, cast_mod h0, cast_add, cast_add, cast_mul, cast_mul, cast_mul, cast_mul, cast_mul, cast_mul, cast_mul, cast_two] at ih
    rw [Nat.pow_succ, Nat.mul_comm, pow_mul]
    rw [← ih]
    congr 1
    generalize (a : R) = A
    generalize (b : R) = B
    generalize (τ : R) = T at hy
    generalize (δ : R) = D at hy
    exact rg1 [A, B, T, D, y] hy (B * B) (by decide +kernel)
theorem y_conj {p m τ δ : Nat} {y : R} (h0 : (p : R) = 0) (hp : 2 ≤ p) (hm : 1 ≤ m) (hy : y * y = (τ : R) * y + (δ : R)) (h2 : y ^ (2 * m) = -1)
    (hc : (p % (4 * m) = 2 * m + 1 ∧ τ = 0) ∨ (p % (4 * m) = 2 * m - 1 ∧ δ = 1) ∨ (p % (4 * m) = 4 * m - 1 ∧ δ + 1 = p)) : y ^ p = (τ : R) - y := by
  have e4 : 4 * m = 2 * (2 * m) := by omega
  rw [← pow_per h2 p, ← e4]
  rcases hc with ⟨h, rfl⟩ | ⟨h, rfl⟩ | ⟨h, hd⟩
  · rw [h, CRg.pow_succ, h2, cast_zero]
    exact rg0 [y] (by decide +kernel)
  · have h3 : y ^ (2 * m - 1) * y = -1 := by rw [← CRg.pow_succ, show 2 * m - 1 + 1 = 2 * m by omega, h2]
    rw [h]
    rw [cast_one] at hy
    generalize y ^ (2 * m - 1) = A at h3 ⊢
    generalize (τ : R) = T at hy ⊢
    exact rg2 [A, T, y] h3 (y - T) hy (-A) (by decide +kernel)
  · have h3 : y ^ (4 * m - 1) * y = 1 := by
      rw [← CRg.pow_succ, show 4 * m - 1 + 1 = 2 * m * 2 by omega, pow_mul, h2]
      exact rg0 ([] : List R) (by decide +kernel)
    have h4 : (δ : R) = -1 := by
      have h5 : ((δ + 1 : Nat) : R) = 0 := by rw [hd]; exact h0
      rw [cast_add, cast_one] at h5
      generalize (δ : R) = D at h5 ⊢
      exact rg1 [D] h5 (1) (by decide +kernel)
    rw [h]
    rw [h4] at hy
    generalize y ^ (4 * m - 1) = A at h3 ⊢
    generalize (τ : R) = T at hy ⊢
    exact rg2 [A, T, y] h3 (T - y) hy (A) (by decide +kernel)
theorem range_split {e : Nat} (he : e = 1 ∨ e = 2 ∨ e = 4 ∨ e = 8) : (List.range (2 * e)).Perm ((List.range e).map (fun j => 2 * j) ++ (List.range e).map (fun j => 2 * j + 1)) := by
  rcases he with rfl | rfl | rfl | rfl <;> decide
theorem neg_pow_odd {p : Nat} (h : p % 2 = 1) : (-1 : R) ^ p = -1 := by
  obtain ⟨k, rfl⟩ : ∃ k, p = 2 * k + 1 := ⟨p / 2, by omega⟩
  rw [CRg.pow_succ, pow_mul, show (-1 : R) ^ 2 = 1 by exact rg0 ([] : List R) (by decide +kernel), one_pow]
  exact rg0 ([] : List R) (by decide +kernel)
theorem pe_all {p n e c : Nat} {x : R} (hp : Mr.Pr p) (h0 : (p : R) = 0) (hodd : p % 2 = 1) (he : e = 1 ∨ e = 2 ∨ e = 4 ∨ e = 8) (hen : e ∣ n) (hx : x ^ n = -1) (hperm : ((List.range e).map fun j => p ^ (2 * j) % (2 * n)).Perm (prog n e)) :
    lprod ((List.range (2 * e)).map fun j => (x + (c : R)) ^ (p ^ j)) = sgnN e c x * sgnN e c (x ^ p) := by
  have e0 : ((List.range (2 * e)).map fun j => (x + (c : R)) ^ (p ^ j)) = (List.range (2 * e)).map fun j => x ^ (p ^ j) + (c : R) := List.map_congr_left fun j _ => frobs hp h0 x c j
  rw [e0, lprod_perm ((range_split he).map _), List.map_append, lprod_append, List.map_map, List.map_map]
  have half : ∀ z : R, z ^ n = -1 → lprod ((List.range e).map fun j => z ^ (p ^ (2 * j)) + (c : R)) = sgnN e c z := fun z hz => by
    rw [← pe_prog he hen hz c, ← pe_perm hperm]
    have e1 : ((List.range e).map fun j => p ^ (2 * j) % (2 * n)) = ((List.range e).map fun j => p ^ (2 * j)).map (· % (2 * n)) := by
      rw [List.map_map]
      rfl
    rw [e1, pe_mod hz]
    unfold pe
    rw [List.map_map]
    rfl
  have e2 : ((fun j => x ^ (p ^ j) + (c : R)) ∘ fun j => 2 * j + 1) = fun j => (x ^ p) ^ (p ^ (2 * j)) + (c : R) := funext fun j => by
    show x ^ (p ^ (2 * j + 1)) + (c : R) = _
    rw [Nat.pow_succ, Nat.mul_comm, pow_mul]
  rw [e2, half (x ^ p) (by rw [← pow_mul, Nat.mul_comm, pow_mul, hx, neg_pow_odd hodd])]
  congr 1
  exact half x hx
/-- the norm -/
theorem norm_tri {p n e c τ δ : Nat} {x : R} (hp : Mr.Pr p) (h0 : (p : R) = 0) (hodd : p % 2 = 1) (he : e = 1 ∨ e = 2 ∨ e = 4 ∨ e = 8) (hen : e ∣ n) (hx : x ^ n = -1) (hperm : ((List.range e).map fun j => p ^ (2 * j) % (2 * n)).Perm (prog n e))
    (hy : x ^ e * x ^ e = (τ : R) * x ^ e + (δ : R)) (hyp : (x ^ e) ^ p = (τ : R) - x ^ e) :
    lprod ((List.range (2 * e)).map fun j => (x + (c : R)) ^ (p ^ j)) = (c : R) ^ e * (c : R) ^ e + (if e = 1 then (τ : R) else -(τ : R)) * (c : R) ^ e - (δ : R) := by
  rw [pe_all hp h0 hodd he hen hx hperm]
  unfold sgnN
  by_cases h1 : e = 1
  · subst h1
    rw [pow_one'] at hy hyp
    rw [if_pos rfl, if_pos rfl, if_pos rfl, hyp, pow_one']
    generalize (c : R) = C
    generalize (τ : R) = T at hy ⊢
    generalize (δ : R) = D at hy ⊢
    exact rg1 [x, C, T, D] hy (-1) (by decide +kernel)
  · rw [if_neg h1, if_neg h1, if_neg h1, ← pow_mul x, Nat.mul_comm p e, pow_mul, hyp]
    generalize x ^ e = Y at hy ⊢
    generalize (c : R) ^ e = C
    generalize (τ : R) = T at hy ⊢
    generalize (δ : R) = D at hy ⊢
    exact rg1 [Y, C, T, D] hy (-1) (by decide +kernel)
end Rg
end Go.Proofs.Ytkklacgoeopekaa
