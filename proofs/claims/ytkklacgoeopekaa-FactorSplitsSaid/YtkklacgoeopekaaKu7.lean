/- The ring of polynomials modulo p and a polynomial. No program in sight. -/
/- The operations on polynomials, seen in the ring modulo a divisor. No program in sight. -/
/- The tree of the splittings, for a family of coprime factors that the candidates part. No program in sight. -/
/- The tree of the splittings, for a family of coprime factors that the linear candidates part. No program in sight. -/
import Derived.Test.YtkklacgoeopekaaPi7
import Derived.Test.YtkklacgoeopekaaKn7
namespace Go.Proofs.Ytkklacgoeopekaa
open Go.RowKit
set_option linter.unusedVariables false

/-- polynomials with natural coefficients -/
structure Pn where
  v : Nat → Nat
  fin : ∃ N, ∀ j, N ≤ j → v j = 0
namespace Pn
def add (a b : Pn) : Pn := ⟨fun j => a.1 j + b.1 j, by
  obtain ⟨N, hN⟩ := a.2
  obtain ⟨M, hM⟩ := b.2
  exact ⟨max N M, fun j hj => by
    show a.1 j + b.1 j = 0
    rw [hN j (by omega), hM j (by omega)]⟩⟩
def mul (a b : Pn) : Pn := ⟨conv a.1 b.1, by
  obtain ⟨N, hN⟩ := a.2
  obtain ⟨M, hM⟩ := b.2
  exact ⟨N + M, fun j hj => conv_ext hN hM j (by omega)⟩⟩
def con (n : Nat) : Pn := ⟨oneF n, 1, fun j h => oneF_out h⟩
def smul (c : Nat) (a : Pn) : Pn := ⟨fun j => c * a.1 j, by
  obtain ⟨N, hN⟩ := a.2
  exact ⟨N, fun j hj => by
    show c * a.1 j = 0
    rw [hN j hj, Nat.mul_zero]⟩⟩
theorem ext' {a b : Pn} (h : ∀ j, a.1 j = b.1 j) : a = b := by
  cases a
  cases b
  congr 1
  exact funext h
end Pn
def Kq (p : Nat) (φ : Nat → Nat) (a b : Pn) : Prop := ∃ u v : Pn, ∀ j, (a.1 j + conv u.1 φ j) % p = (b.1 j + conv v.1 φ j) % p
theorem conv_addR (a b c : Nat → Nat) (k : Nat) : conv c (fun j => a j + b j) k = conv c a k + conv c b k := by rw [conv_comm, conv_add, conv_comm a, conv_comm b]
theorem Kq.refl (p : Nat) (φ : Nat → Nat) (a : Pn) : Kq p φ a a := ⟨a, a, fun _ => rfl⟩
theorem Kq.symm {p : Nat} {φ : Nat → Nat} {a b : Pn} : Kq p φ a b → Kq p φ b a := fun ⟨u, v, h⟩ => ⟨v, u, fun j => (h j).symm⟩
theorem Kq.trans {p : Nat} {φ : Nat → Nat} {a b c : Pn} : Kq p φ a b → Kq p φ b c → Kq p φ a c := fun ⟨u, v, h⟩ ⟨u', v', h'⟩ => ⟨u.add u', v.add v', fun j => by
  show (a.1 j + conv (fun i => u.1 i + u'.1 i) φ j) % p = (c.1 j + conv (fun i => v.1 i + v'.1 i) φ j) % p
  rw [conv_add, conv_add]
  have h1 := h j
  have h2 := h' j
  rw [show a.1 j + (conv u.1 φ j + conv u'.1 φ j) = (a.1 j + conv u.1 φ j) + conv u'.1 φ j by omega, Nat.add_mod, h1, ← Nat.add_mod, show b.1 j + conv v.1 φ j + conv u'.1 φ j = (b.1 j + conv u'.1 φ j) + conv v.1 φ j by omega, Nat.add_mod, h2, ← Nat.add_mod]
  congr 1
  omega⟩
theorem Kq.add {p : Nat} {φ : Nat → Nat} {a b c d : Pn} : Kq p φ a b → Kq p φ c d → Kq p φ (a.add c) (b.add d) := fun ⟨u, v, h⟩ ⟨u', v', h'⟩ => ⟨u.add u', v.add v', fun j => by
  show (a.1 j + c.1 j + conv (fun i => u.1 i + u'.1 i) φ j) % p = (b.1 j + d.1 j + conv (fun i => v.1 i + v'.1 i) φ j) % p
  rw [conv_add, conv_add, show a.1 j + c.1 j + (conv u.1 φ j + conv u'.1 φ j) = (a.1 j + conv u.1 φ j) + (c.1 j + conv u'.1 φ j) by omega, Nat.add_mod, h j, h' j, ← Nat.add_mod]
  congr 1
  omega⟩
theorem Kq.mul1 {p : Nat} {φ : Nat → Nat} {a b : Pn} (c : Pn) : Kq p φ a b → Kq p φ (a.mul c) (b.mul c) := fun ⟨u, v, h⟩ => ⟨u.mul c, v.mul c, fun j => by
  show (conv a.1 c.1 j + conv (conv u.1 c.1) φ j) % p = (conv b.1 c.1 j + conv (conv v.1 c.1) φ j) % p
  have e : ∀ w : Pn, conv (conv w.1 c.1) φ j = conv (conv w.1 φ) c.1 j := fun w => by
    rw [conv_assoc, conv_assoc]
    congr 1
    exact funext fun i => conv_comm _ _ i
  rw [e, e, ← conv_add, ← conv_add]
  exact conv_mod h (fun _ => rfl) j⟩
theorem Pn.mul_comm' (a b : Pn) : a.mul b = b.mul a := Pn.ext' fun j => conv_comm _ _ j
theorem Kq.mul {p : Nat} {φ : Nat → Nat} {a b c d : Pn} (h : Kq p φ a b) (h' : Kq p φ c d) : Kq p φ (a.mul c) (b.mul d) := by
  refine (h.mul1 c).trans ?_
  rw [Pn.mul_comm' b c, Pn.mul_comm' b d]
  exact h'.mul1 b
theorem Kq.of_mod {p : Nat} {φ : Nat → Nat} {a b : Pn} (h : ∀ j, a.1 j % p = b.1 j % p) : Kq p φ a b := ⟨Pn.con 0, Pn.con 0, fun j => by rw [Nat.add_mod, h j, ← Nat.add_mod]⟩
def kst (p : Nat) (φ : Nat → Nat) : Setoid Pn := ⟨Kq p φ, Kq.refl p φ, Kq.symm, Kq.trans⟩
/-- the ring -/
def KR (p : Nat) (hp : 0 < p) (φ : Nat → Nat) : Type := Quotient (kst p φ)
namespace KR
variable {p : Nat} {hp : 0 < p} {φ : Nat → Nat}
def mk (a : Pn) : KR p hp φ := Quotient.mk (kst p φ) a
theorem sound {a b : Pn} (h : Kq p φ a b) : (mk a : KR p hp φ) = mk b := Quotient.sound (s := kst p φ) h
theorem exact' {a b : Pn} (h : (mk a : KR p hp φ) = mk b) : Kq p φ a b := Quotient.exact (s := kst p φ) h
theorem rep (x : KR p hp φ) : ∃ a, mk a = x := Quotient.inductionOn (s := kst p φ) x fun a => ⟨a, rfl⟩
def kadd (x y : KR p hp φ) : KR p hp φ := Quotient.liftOn₂ (s₁ := kst p φ) (s₂ := kst p φ) x y (fun a b => mk (a.add b)) fun a b c d h h' => sound (Kq.add h h')
def kmul (x y : KR p hp φ) : KR p hp φ := Quotient.liftOn₂ (s₁ := kst p φ) (s₂ := kst p φ) x y (fun a b => mk (a.mul b)) fun a b c d h h' => sound (Kq.mul h h')
theorem con_mul (n : Nat) (a : Pn) : (Pn.con n).mul a = a.smul n := Pn.ext' fun j => conv_oneF n a.1 j
def kneg (x : KR p hp φ) : KR p hp φ := kmul (mk (Pn.con (p - 1))) x
def kpow (x : KR p hp φ) : Nat → KR p hp φ
  | 0 => mk (Pn.con 1)
  | n + 1 => kmul (kpow x n) x
theorem con_add (n m : Nat) : (Pn.con n).add (Pn.con m) = Pn.con (n + m) := Pn.ext' fun j => by
  show oneF n j + oneF m j = oneF (n + m) j
  unfold oneF
  split <;> omega
theorem con_con (n m : Nat) : (Pn.con n).mul (Pn.con m) = Pn.con (n * m) := by
  rw [con_mul]
  exact Pn.ext' fun j => by
    show n * oneF m j = oneF (n * m) j
    unfold oneF
    split <;> simp
theorem con_mod (n m : Nat) (h : n % p = m % p) : (mk (Pn.con n) : KR p hp φ) = mk (Pn.con m) := sound (Kq.of_mod fun j => by
  show oneF n j % p = oneF m j % p
  unfold oneF
  split
  · exact h
  · rfl)
instance : Add (KR p hp φ) := ⟨kadd⟩
instance : Mul (KR p hp φ) := ⟨kmul⟩
instance : NatCast (KR p hp φ) := ⟨fun n => mk (Pn.con n)⟩
instance (n : Nat) : OfNat (KR p hp φ) n := ⟨mk (Pn.con n)⟩
instance : HPow (KR p hp φ) Nat (KR p hp φ) := ⟨kpow⟩
instance : Neg (KR p hp φ) := ⟨kneg⟩
instance : Sub (KR p hp φ) := ⟨fun a b => kadd a (kneg b)⟩
theorem mul_assoc' (a b c : KR p hp φ) : a * b * c = a * (b * c) := by
  obtain ⟨a, rfl⟩ := rep a
  obtain ⟨b, rfl⟩ := rep b
  obtain ⟨c, rfl⟩ := rep c
  exact congrArg mk (Pn.ext' fun j => conv_assoc a.1 b.1 c.1 j)
theorem mul_comm'' (a b : KR p hp φ) : a * b = b * a := by
  obtain ⟨a, rfl⟩ := rep a
  obtain ⟨b, rfl⟩ := rep b
  exact congrArg mk (Pn.mul_comm' a b)
theorem add_assoc' (a b c : KR p hp φ) : a + b + c = a + (b + c) := by
  obtain ⟨a, rfl⟩ := rep a
  obtain ⟨b, rfl⟩ := rep b
  obtain ⟨c, rfl⟩ := rep c
  exact congrArg mk (Pn.ext' fun j => Nat.add_assoc _ _ _)
theorem add_comm' (a b : KR p hp φ) : a + b = b + a := by
  obtain ⟨a, rfl⟩ := rep a
  obtain ⟨b, rfl⟩ := rep b
  exact congrArg mk (Pn.ext' fun j => Nat.add_comm _ _)
theorem add_zero' (a : KR p hp φ) : a + 0 = a := by
  obtain ⟨a, rfl⟩ := rep a
  exact congrArg mk (Pn.ext' fun j => by
    show a.1 j + oneF 0 j = a.1 j
    unfold oneF
    split <;> rfl)
theorem mul_one' (a : KR p hp φ) : a * 1 = a := by
  rw [mul_comm'']
  obtain ⟨a, rfl⟩ := rep a
  refine congrArg mk (a₁ := (Pn.con 1).mul a) ?_
  rw [con_mul]
  exact Pn.ext' fun j => Nat.one_mul _
theorem zero_mul' (a : KR p hp φ) : 0 * a = 0 := by
  obtain ⟨a, rfl⟩ := rep a
  refine congrArg mk (a₁ := (Pn.con 0).mul a) (a₂ := Pn.con 0) ?_
  rw [con_mul]
  exact Pn.ext' fun j => by
    show 0 * a.1 j = oneF 0 j
    unfold oneF
    split <;> simp
theorem left_distrib' (a b c : KR p hp φ) : a * (b + c) = a * b + a * c := by
  obtain ⟨a, rfl⟩ := rep a
  obtain ⟨b, rfl⟩ := rep b
  obtain ⟨c, rfl⟩ := rep c
  exact congrArg mk (Pn.ext' fun j => conv_addR b.1 c.1 a.1 j)
theorem p_zero : (mk (Pn.con p) : KR p hp φ) = mk (Pn.con 0) := con_mod _ _ (by rw [Nat.mod_self, Nat.zero_mod])
theorem neg_add_cancel' (a : KR p hp φ) : -a + a = 0 := by
  have h1 : (-a + a : KR p hp φ) = a * (mk (Pn.con (p - 1)) + mk (Pn.con 1)) := by
    rw [left_distrib']
    show kneg a + a = a * mk (Pn.con (p - 1)) + a * 1
    rw [mul_one', mul_comm'' a]
    rfl
  have h2 : (mk (Pn.con (p - 1)) + mk (Pn.con 1) : KR p hp φ) = 0 := by
    show mk ((Pn.con (p - 1)).add (Pn.con 1)) = mk (Pn.con 0)
    rw [con_add, Nat.sub_add_cancel hp]
    exact p_zero
  rw [h1, h2, mul_comm'', zero_mul']
instance : CRg (KR p hp φ) where
  add_zero := add_zero'
  add_comm := add_comm'
  add_assoc := add_assoc'
  mul_comm := mul_comm''
  mul_assoc := mul_assoc'
  mul_one := mul_one'
  left_distrib := left_distrib'
  neg_add_cancel := neg_add_cancel'
  sub_eq a b := rfl
  pow_zero a := rfl
  pow_succ a n := rfl
  cast_zero := rfl
  cast_succ n := (congrArg mk (con_add n 1)).symm
  num_eq n := rfl
end KR
end Go.Proofs.Ytkklacgoeopekaa

namespace Go.Proofs.Ytkklacgoeopekaa
open Go.RowKit
set_option linter.unusedVariables false

open Classical in
/-- a polynomial in the ring -/
noncomputable def fv (p : Nat) (hp : 0 < p) (φ : Nat → Nat) (f : Nat → Nat) : KR p hp φ := if h : ∃ N, ∀ j, N ≤ j → f j = 0 then KR.mk ⟨f, h⟩ else 0
noncomputable def lv (p : Nat) (hp : 0 < p) (φ : Nat → Nat) (l : List Nat) : KR p hp φ := fv p hp φ (litF l)
section
variable {p : Nat} {hp : 0 < p} {φ : Nat → Nat}
theorem fv_eq {f : Nat → Nat} (h : ∃ N, ∀ j, N ≤ j → f j = 0) : fv p hp φ f = KR.mk ⟨f, h⟩ := dif_pos h
theorem fv_mod {f g : Nat → Nat} {n m : Nat} (hf : ∀ j, n ≤ j → f j = 0) (hg : ∀ j, m ≤ j → g j = 0) (h : ∀ j, f j % p = g j % p) : fv p hp φ f = fv p hp φ g := by
  rw [fv_eq ⟨n, hf⟩, fv_eq ⟨m, hg⟩]
  exact KR.sound (Kq.of_mod h)
theorem fv_one (c : Nat) : fv p hp φ (oneF c) = (c : KR p hp φ) := fv_eq ⟨1, fun j h => oneF_out h⟩
theorem fv_conv {f g : Nat → Nat} {n m : Nat} (hf : ∀ j, n ≤ j → f j = 0) (hg : ∀ j, m ≤ j → g j = 0) : fv p hp φ (conv f g) = fv p hp φ f * fv p hp φ g := by
  rw [fv_eq ⟨n, hf⟩, fv_eq ⟨m, hg⟩, fv_eq ⟨n + m, fun j hj => conv_ext hf hg j (by omega)⟩]
  rfl
theorem fv_plus {f g : Nat → Nat} {n m : Nat} (hf : ∀ j, n ≤ j → f j = 0) (hg : ∀ j, m ≤ j → g j = 0) : fv p hp φ (fun j => f j + g j) = fv p hp φ f + fv p hp φ g := by
  rw [fv_eq ⟨n, hf⟩, fv_eq ⟨m, hg⟩, fv_eq ⟨max n m, fun j hj => by rw [hf j (by omega), hg j (by omega)]⟩]
  rfl
theorem fv_mul {f g : Nat → Nat} {n m : Nat} (hf : ∀ j, n ≤ j → f j = 0) (hg : ∀ j, m ≤ j → g j = 0) : fv p hp φ (mulF p f g) = fv p hp φ f * fv p hp φ g := by
  rw [← fv_conv hf hg]
  exact fv_mod (n := n + m) (m := n + m) (fun j hj => mulF_ext hf hg j (by omega)) (fun j hj => conv_ext hf hg j (by omega)) fun j => by rw [mulF_conv, Nat.mod_mod]
theorem KR.p0 : ((p : Nat) : KR p hp φ) = 0 := KR.p_zero
/-- the polynomial itself is zero -/
theorem fv_self {n : Nat} (hφ : ∀ j, n ≤ j → φ j = 0) : fv p hp φ φ = 0 := by
  rw [fv_eq ⟨n, hφ⟩]
  exact KR.sound ⟨Pn.con 0, Pn.con 1, fun j => by
    show (φ j + conv (oneF 0) φ j) % p = (oneF 0 j + conv (oneF 1) φ j) % p
    rw [conv_oneF, conv_oneF, Nat.zero_mul, Nat.one_mul, Nat.add_zero, show oneF 0 j = 0 by unfold oneF; split <;> rfl, Nat.zero_add]⟩
theorem fv_dv {f : Nat → Nat} {n k : Nat} (hf : ∀ j, n ≤ j → f j = 0) (hφ : ∀ j, k ≤ j → φ j = 0) (h : Dv p φ f) : fv p hp φ f = 0 := by
  obtain ⟨q, N, h1, h2⟩ := h
  rw [fv_mod (g := conv q φ) hf (fun j (hj : N + k ≤ j) => conv_ext h1 hφ j (by omega)) h2, fv_conv h1 hφ, fv_self hφ]
  rw [CRg.mul_zero]
theorem dv_fv {f : Nat → Nat} {n : Nat} (hf : ∀ j, n ≤ j → f j = 0) (h : fv p hp φ f = 0) : Dv p φ f := by
  rw [fv_eq ⟨n, hf⟩] at h
  obtain ⟨u, v, h1⟩ := KR.exact' (b := Pn.con 0) h
  obtain ⟨N, hN⟩ := u.2
  obtain ⟨M, hM⟩ := v.2
  refine ⟨fun j => v.1 j + (p - 1) * u.1 j, max N M, fun j hj => by
    show v.1 j + (p - 1) * u.1 j = 0
    rw [hM j (by omega), hN j (by omega), Nat.mul_zero], fun j => ?_⟩
  rw [conv_add, conv_smul]
  have h2 := h1 j
  have h3 : oneF 0 j = 0 := by unfold oneF; split <;> rfl
  have h4 : (f j + conv u.1 φ j) % p = (0 + conv v.1 φ j) % p := by rw [← h3]; exact h2
  rw [Nat.zero_add] at h4
  have h5 : (f j + conv u.1 φ j + (p - 1) * conv u.1 φ j) % p = f j % p := by
    rw [Nat.add_assoc, show conv u.1 φ j + (p - 1) * conv u.1 φ j = p * conv u.1 φ j by
      conv => rhs; rw [show p = (p - 1) + 1 by omega, Nat.add_mul, Nat.one_mul]
      omega, Nat.add_mul_mod_self_left]
  rw [← h5, Nat.add_mod, h4, ← Nat.add_mod]
/-- the rest of a division by a multiple -/
theorem fv_dR {nb iv i n k : Nat} {b r : Nat → Nat} (hr : ∀ j, n ≤ j → r j = 0) (hk : ∀ j, k ≤ j → dR p nb b iv i r j = 0) (hb : ∀ j, nb ≤ j → b j = 0) (h0 : fv p hp φ b = 0) : fv p hp φ (dR p nb b iv i r) = fv p hp φ r := by
  obtain ⟨q, h1, h2⟩ := dR_eq (m := p) (nb := nb) (iv := iv) (b := b) i r
  rw [fv_mod (g := fun j => r j + conv q b j) hk (fun j (hj : max n (i + nb) ≤ j) => by rw [hr j (by omega), conv_ext h1 hb j (by omega)]) h2, fv_plus hr (fun j (hj : i + nb ≤ j) => conv_ext h1 hb j (by omega)), fv_conv h1 hb, h0]
  rw [CRg.mul_zero, CRg.add_zero]
theorem rest_fv {nb iv : Nat} {b : Nat → Nat} {P : Nat × (Nat → Nat)} (h : Res p P) (hnb : 0 < nb) (hiv : iv * b (nb - 1) % p = 1 % p) (hb : ∀ j, nb ≤ j → b j = 0) (h0 : fv p hp φ b = 0) : fv p hp φ (restP p nb b iv P).2 = fv p hp φ P.2 := by
  obtain ⟨r1, r2, r3⟩ := res_rest h hp hnb hiv hb
  exact fv_dR h.2.1 r1.2.1 hb h0
theorem pow_fv {nb iv : Nat} {b : Nat → Nat} (hnb : 0 < nb) (hiv : iv * b (nb - 1) % p = 1 % p) (hb : ∀ j, nb ≤ j → b j = 0) (h0 : fv p hp φ b = 0) : ∀ (k N : Nat) (o x : Nat × (Nat → Nat)), N < 2 ^ k → Res p o → Res p x → fv p hp φ (powP p nb b iv k N o x).2 = fv p hp φ o.2 * fv p hp φ x.2 ^ N := by
  intro k
  induction k with
  | zero =>
    intro N o x hN ho hx
    have h0 : N = 0 := by omega
    subst h0
    rw [powP_zero, CRg.pow_zero, CRg.mul_one]
  | succ k ih =>
    intro N o x hN ho hx
    rw [powP_succ]
    by_cases hN0 : N = 0
    · subst hN0
      rw [if_pos rfl, CRg.pow_zero, CRg.mul_one]
    rw [if_neg hN0]
    obtain ⟨q1, _⟩ := res_prod hx hx hp
    obtain ⟨s1, s2, _⟩ := res_rest q1 hp hnb hiv hb
    have hN2 : N / 2 < 2 ^ k := by rw [Nat.pow_succ] at hN; omega
    have hsq : fv p hp φ (restP p nb b iv (prodP p x x)).2 = fv p hp φ x.2 ^ 2 := by
      rw [rest_fv q1 hnb hiv hb h0]
      show fv p hp φ (mulF p x.2 x.2) = _
      rw [fv_mul hx.2.1 hx.2.1]
      generalize fv p hp φ x.2 = X
      exact rg0 [X] (by decide +kernel)
    by_cases hodd : N % 2 = 1
    · rw [if_pos hodd]
      obtain ⟨q2, _⟩ := res_prod ho hx hp
      obtain ⟨t1, t2, _⟩ := res_rest q2 hp hnb hiv hb
      rw [ih (N / 2) _ _ hN2 t1 s1, hsq, rest_fv q2 hnb hiv hb h0]
      show fv p hp φ (mulF p o.2 x.2) * _ = _
      rw [fv_mul ho.2.1 hx.2.1, ← Rg.pow_mul]
      obtain ⟨h, rfl⟩ : ∃ h, N = 2 * h + 1 := ⟨N / 2, by omega⟩
      rw [show (2 * h + 1) / 2 = h by omega, CRg.pow_succ]
      generalize fv p hp φ x.2 ^ (2 * h) = A
      generalize fv p hp φ o.2 = B
      generalize fv p hp φ x.2 = X
      exact rg0 [A, B, X] (by decide +kernel)
    · rw [if_neg hodd, ih (N / 2) _ _ hN2 ho s1, hsq, ← Rg.pow_mul, show 2 * (N / 2) = N by omega]
end
section
variable {p : Nat} {φ : Nat → Nat}
theorem dmR_lv {a f : List Nat} (hp : Mr.Pr p) (hp2 : p ≤ 2147483647) (ha : LR p a) (hf : LR p f) (hf0 : 0 < f.length) (hn : a.length ≤ 256) (hnb : f.length ≤ 256) (h0 : lv p hp.pos φ f = 0) : lv p hp.pos φ (dmR p a f) = lv p hp.pos φ a := by
  obtain ⟨iv, hu, hi1, hi2⟩ := unit_prime hp hf hf0
  have hE : dvE p a.length (litF a) f.length (litF f) = 0 := by
    unfold dvE
    rw [chk2_of (ha.chk hp.1 hp2 hn) (hf.chk hp.1 hp2 hnb), if_pos rfl, hu]
    rfl
  have e : dmR p a f = toL (restP p f.length (litF f) iv (a.length, litF a)).1 (restP p f.length (litF f) iv (a.length, litF a)).2 := by
    unfold dmR dvR
    rw [if_pos hE, hu]
    rfl
  obtain ⟨r1, r2, r3⟩ := res_rest (p := (a.length, litF a)) ha hp.pos hf0 hi2 hf.2.1
  rw [e]
  unfold lv
  rw [(toL_pair r1).2]
  exact rest_fv (P := (a.length, litF a)) ha hf0 hi2 hf.2.1 h0
theorem mlL_lv {a b : List Nat} (hp : Mr.Pr p) (hp2 : p ≤ 2147483647) (ha : LR p a) (hb : LR p b) (hn : a.length + b.length ≤ 200) : lv p hp.pos φ (mlL p a b) = lv p hp.pos φ a * lv p hp.pos φ b := by
  have hE : mlE p a.length (litF a) b.length (litF b) = 0 := by
    unfold mlE
    rw [chk2_of (ha.chk hp.1 hp2 (by omega)) (hb.chk hp.1 hp2 (by omega)), if_pos rfl, if_neg (by omega)]
  have e : mlL p a b = toL (prodP p (a.length, litF a) (b.length, litF b)).1 (prodP p (a.length, litF a) (b.length, litF b)).2 := by
    unfold mlL mlF
    rw [if_pos hE]
    rfl
  obtain ⟨r1, r2⟩ := res_prod (p := (a.length, litF a)) (q := (b.length, litF b)) ha hb hp.pos
  rw [e]
  unfold lv
  rw [(toL_pair r1).2]
  exact fv_mul ha.2.1 hb.2.1
theorem pwL_lv {a f : List Nat} {N : Nat} (hp : Mr.Pr p) (hp2 : p ≤ 2147483647) (ha : LR p a) (hf : LR p f) (hf0 : 0 < f.length) (hn : a.length ≤ 256) (hnb : f.length ≤ 256) (hN : N < 2 ^ 64) (h0 : lv p hp.pos φ f = 0) : lv p hp.pos φ (pwL p a N f) = lv p hp.pos φ a ^ N := by
  obtain ⟨iv, hu, hi1, hi2⟩ := unit_prime hp hf hf0
  have hE : dvE p a.length (litF a) f.length (litF f) = 0 := by
    unfold dvE
    rw [chk2_of (ha.chk hp.1 hp2 hn) (hf.chk hp.1 hp2 hnb), if_pos rfl, hu]
    rfl
  obtain ⟨P, hP⟩ : ∃ P, powP p f.length (litF f) iv 64 N (restP p f.length (litF f) iv (1, oneF 1)) (restP p f.length (litF f) iv (a.length, litF a)) = P := ⟨_, rfl⟩
  have e : pwL p a N f = toL P.1 P.2 := by
    unfold pwL pwP
    rw [if_pos hE, hu]
    show toL (powP p f.length (litF f) iv 64 N _ _).1 (powP p f.length (litF f) iv 64 N _ _).2 = _
    rw [hP]
  have hone := res_one hp.1
  obtain ⟨o1, o2, _⟩ := res_rest hone hp.pos hf0 hi2 hf.2.1
  obtain ⟨x1, x2, _⟩ := res_rest (p := (a.length, litF a)) ha hp.pos hf0 hi2 hf.2.1
  obtain ⟨r1, _, _⟩ := pow_val hp.1 hf0 hi2 hf.2.1 64 N _ _ hN o1 x1 o2 x2
  have r3 := pow_fv (hp := hp.pos) (φ := φ) hf0 hi2 hf.2.1 h0 64 N _ _ hN o1 x1
  rw [hP] at r1 r3
  rw [e]
  unfold lv at h0 ⊢
  rw [(toL_pair r1).2, r3, rest_fv hone hf0 hi2 hf.2.1 h0, rest_fv (P := (a.length, litF a)) ha hf0 hi2 hf.2.1 h0]
  show fv p hp.pos φ (oneF 1) * _ = _
  rw [fv_one, Rg.cast_one]
  rw [CRg.one_mul]
theorem sbL_lv {c : List Nat} (hp : Mr.Pr p) (hp2 : p ≤ 2147483647) (hc : LR p c) (hn : c.length ≤ 256) : lv p hp.pos φ (sbL p c [1]) + 1 = lv p hp.pos φ c := by
  have h1 := LR.one hp.1
  have hE : chk2 p c.length (litF c) ([1] : List Nat).length (litF [1]) = 0 := chk2_of (hc.chk hp.1 hp2 hn) (h1.chk hp.1 hp2 (by decide))
  have hz : ∀ j, max c.length 1 ≤ j → subF p (litF c) (litF [1]) j = 0 := fun j hj => by
    unfold subF
    rw [show litF c j = 0 from hc.2.1 j (show c.length ≤ j by omega), show litF [1] j = 0 from h1.2.1 j (show 1 ≤ j by omega), Nat.zero_add, Nat.sub_zero, Nat.mod_self]
  have hres : Res p (tl (subF p (litF c) (litF [1])) (max c.length 1), subF p (litF c) (litF [1])) := ⟨fun j => Nat.mod_lt _ hp.pos, fun j hj => by
    rcases Nat.lt_or_ge j (max c.length 1) with h | h
    · exact tl_zero _ _ j hj h
    · exact hz j h, tl_tl _ _⟩
  have e : sbL p c [1] = toL (tl (subF p (litF c) (litF [1])) (max c.length 1)) (subF p (litF c) (litF [1])) := by
    unfold sbL okF
    rw [hE, if_pos rfl]
    rfl
  rw [e]
  unfold lv
  rw [(toL_pair hres).2]
  have h2 : fv p hp.pos φ (oneF 1) = 1 := by rw [fv_one, Rg.cast_one]
  rw [← h2, ← litF_one, ← fv_plus hz h1.2.1]
  refine fv_mod (n := max c.length 1) (m := c.length) (fun j hj => by
    show subF p (litF c) (litF [1]) j + litF [1] j = 0
    rw [hz j hj, show litF [1] j = 0 from h1.2.1 j (show 1 ≤ j by omega)]) hc.2.1 fun j => ?_
  have h3 := congrFun (sub_add (p := p) hc.1 h1.1) j
  unfold addF at h3
  rw [h3, Nat.mod_eq_of_lt (hc.1 j)]
end
end Go.Proofs.Ytkklacgoeopekaa

namespace Go.Proofs.Ytkklacgoeopekaa
open Go.RowKit
set_option linter.unusedVariables false

section
variable {p : Nat}
theorem chrS_law {f D : List Nat} (hp : Mr.Pr p) (hp2 : p ≤ 65535) (hf : LR p f) (hf2 : 2 ≤ f.length) (hf6 : f.length ≤ 61) (hD : LR p D) (hDl : D.length < f.length) : ∀ i, LR p (chrS p f D i).1 ∧ LR p (chrS p f D i).2 ∧ (chrS p f D i).1.length < f.length ∧ (chrS p f D i).2.length < f.length
  | 0 => ⟨LR.one hp.1, hD, by show 1 < f.length; omega, hDl⟩
  | i + 1 => by
    obtain ⟨h1, h2, h3, h4⟩ := chrS_law hp hp2 hf hf2 hf6 hD hDl i
    obtain ⟨m1, m2, _⟩ := mlL_law hp (by omega) h1 h2 (by omega)
    obtain ⟨e1, e2, _, _⟩ := dmR_law hp (by omega) m1 hf (by omega) (by omega) (by omega)
    obtain ⟨x1, x2, _⟩ := pwL_law (N := p) hp (by omega) h2 hf (by omega) (by omega) (by omega) (by omega)
    exact ⟨e1, x1, e2, x2⟩
theorem lprod_one {R : Type} [CRg R] (l : List R) (a : R) : Rg.lprod (l ++ [a]) = Rg.lprod l * a := by
  rw [Rg.lprod_append]
  show Rg.lprod l * (a * 1) = _
  rw [CRg.mul_one]
/-- the character of a linear candidate: bounds -/
theorem chr_bounds {f : List Nat} {c d : Nat} (hp : Mr.Pr p) (hp2 : p ≤ 65535) (hf : LR p f) (hf2 : 2 ≤ f.length) (hf6 : f.length ≤ 61) (hc : c < p) :
    chrB p d [c, 1] f = true ∧ LR p (chrL p d [c, 1] f) ∧ (chrL p d [c, 1] f).length < f.length := by
  have hp3 : p ≤ 2147483647 := by omega
  have hal : ([c, 1] : List Nat).length = 2 := rfl
  obtain ⟨d1, d2, d3, _⟩ := dmR_law (a := [c, 1]) hp hp3 (lr_lin hp.1 hc) hf (by omega) (by omega) (by omega)
  have hS := chrS_law hp hp2 hf hf2 hf6 d1 d2
  obtain ⟨s1, s2, s3, s4⟩ := hS d
  obtain ⟨r1, r2, _⟩ := pwL_law (N := (p - 1) / 2) hp hp3 s1 hf (by omega) (by omega) (by omega) (by omega)
  refine ⟨?_, r1, r2⟩
  unfold chrB
  simp only [Bool.and_eq_true, decide_eq_true_eq, List.all_eq_true, List.mem_range]
  refine ⟨⟨by omega, by omega⟩, fun i hi => ?_⟩
  obtain ⟨t1, t2, t3, t4⟩ := hS i
  obtain ⟨m1, m2, _⟩ := mlL_law hp hp3 t1 t2 (by omega)
  exact ⟨⟨by omega, by omega⟩, by omega⟩
theorem chr_lv {f : List Nat} {φ : Nat → Nat} {c d : Nat} (hp : Mr.Pr p) (hp2 : p ≤ 65535) (hf : LR p f) (hf2 : 2 ≤ f.length) (hf6 : f.length ≤ 61) (hc : c < p) (h0 : lv p hp.pos φ f = 0) :
    lv p hp.pos φ (chrL p d [c, 1] f) = Rg.lprod ((List.range d).map fun j => lv p hp.pos φ [c, 1] ^ (p ^ j)) ^ ((p - 1) / 2) := by
  have hp3 : p ≤ 2147483647 := by omega
  have hal : ([c, 1] : List Nat).length = 2 := rfl
  obtain ⟨d1, d2, d3, _⟩ := dmR_law (a := [c, 1]) hp hp3 (lr_lin hp.1 hc) hf (by omega) (by omega) (by omega)
  have hS := chrS_law hp hp2 hf hf2 hf6 d1 d2
  have key : ∀ i, lv p hp.pos φ (chrS p f (dmR p [c, 1] f) i).1 = Rg.lprod ((List.range i).map fun j => lv p hp.pos φ [c, 1] ^ (p ^ j)) ∧ lv p hp.pos φ (chrS p f (dmR p [c, 1] f) i).2 = lv p hp.pos φ [c, 1] ^ (p ^ i) := fun i => by
    induction i with
    | zero =>
      refine ⟨?_, ?_⟩
      · show fv p hp.pos φ (litF [1]) = 1
        rw [litF_one, fv_one, Rg.cast_one]
      · show lv p hp.pos φ (dmR p [c, 1] f) = _
        rw [dmR_lv hp hp3 (lr_lin hp.1 hc) hf (by omega) (by omega) (by omega) h0, Nat.pow_zero]
        generalize lv p hp.pos φ [c, 1] = X
        exact rg0 [X] (by decide +kernel)
    | succ i ih =>
      obtain ⟨t1, t2, t3, t4⟩ := hS i
      obtain ⟨m1, m2, _⟩ := mlL_law hp hp3 t1 t2 (by omega)
      refine ⟨?_, ?_⟩
      · show lv p hp.pos φ (dmR p (mlL p (chrS p f (dmR p [c, 1] f) i).1 (chrS p f (dmR p [c, 1] f) i).2) f) = _
        rw [dmR_lv hp hp3 m1 hf (by omega) (by omega) (by omega) h0, mlL_lv hp hp3 t1 t2 (by omega), ih.1, ih.2, List.range_succ, List.map_append]
        exact (lprod_one _ _).symm
      · show lv p hp.pos φ (pwL p (chrS p f (dmR p [c, 1] f) i).2 p f) = _
        rw [pwL_lv hp hp3 t2 hf (by omega) (by omega) (by omega) (by omega) h0, ih.2, ← Rg.pow_mul, Nat.pow_succ]
  obtain ⟨s1, s2, s3, s4⟩ := hS d
  show lv p hp.pos φ (pwL p (chrS p f (dmR p [c, 1] f) d).1 ((p - 1) / 2) f) = _
  rw [pwL_lv hp hp3 s1 hf (by omega) (by omega) (by omega) (by omega) h0, (key d).1]
/-- a unit modulo φ -/
def Un (p : Nat) (hp : 0 < p) (φ g : List Nat) : Prop := ∃ w : KR p hp (litF φ), lv p hp (litF φ) g * w = 1
theorem litF_end (l : List Nat) : ∀ j, l.length ≤ j → litF l j = 0 := fun j hj => by
  unfold litF
  rw [List.getD_eq_getElem?_getD, List.getElem?_eq_none hj]
  rfl
theorem lv_zero_iff {φ g : List Nat} {hp : 0 < p} : lv p hp (litF φ) g = 0 ↔ Dv p (litF φ) (litF g) := ⟨dv_fv (litF_end g), fv_dv (litF_end g) (litF_end φ)⟩
theorem lv_mul_of {φ f g h : List Nat} {hp : 0 < p} (he : ∀ j, litF f j = mulF p (litF h) (litF g) j) : lv p hp (litF φ) f = lv p hp (litF φ) h * lv p hp (litF φ) g := by
  unfold lv
  rw [← fv_mul (litF_end h) (litF_end g)]
  congr 1
  exact funext he
theorem Un.cancel {φ f g h : List Nat} {hp : 0 < p} (hu : Un p hp φ g) (he : ∀ j, litF f j = mulF p (litF h) (litF g) j) (hd : Dv p (litF φ) (litF f)) : Dv p (litF φ) (litF h) := by
  obtain ⟨w, hw⟩ := hu
  have h1 := lv_zero_iff (hp := hp).2 hd
  rw [lv_mul_of he] at h1
  refine lv_zero_iff (hp := hp).1 ?_
  generalize lv p hp (litF φ) h = A at h1 ⊢
  generalize lv p hp (litF φ) g = B at h1 hw
  exact rg2 [A, B, w] h1 (w) hw (-A) (by decide +kernel)
/-- lengths of an exact quotient -/
theorem quo_len {f g h : List Nat} (hp : Mr.Pr p) (hf : LR p f) (hf0 : 0 < f.length) (hg : LR p g) (hg0 : 0 < g.length) (hh : LR p h) (he : ∀ j, litF f j = mulF p (litF h) (litF g) j) : 0 < h.length ∧ h.length + g.length ≤ f.length + 1 ∧ mulF p (litF h) (litF g) (h.length + g.length - 2) = litF h (h.length - 1) * litF g (g.length - 1) % p := by
  have h0 : 0 < h.length := by
    rcases Nat.eq_zero_or_pos h.length with e | e
    · exfalso
      have h1 := he (f.length - 1)
      rw [mulF_conv, show litF h = fun _ => 0 from funext fun j => litF_end h j (by omega), conv_zero_left, Nat.zero_mod] at h1
      exact hf.last hf0 h1
    · exact e
  have htop := top_mul (p := p) (n := h.length) (nc := g.length) (a := litF h) (c := litF g) (litF_end h) (litF_end g) h0 hg0
  have hne := mulF_ne hp (litF_end h) (litF_end g) h0 hg0 (hh.last h0) (hg.last hg0) (hh.1 _) (hg.1 _)
  refine ⟨h0, ?_, htop⟩
  rcases Nat.lt_or_ge (h.length + g.length - 2) f.length with e | e
  · omega
  · rw [← he] at hne
    exact absurd (litF_end f _ e) hne
theorem dv_len {g φ : List Nat} (hp : Mr.Pr p) (hg : LR p g) (h0 : 0 < g.length) (hφ : LR p φ) (hφ0 : 0 < φ.length) (hd : Dv p (litF φ) (litF g)) : φ.length ≤ g.length := by
  rcases Nat.lt_or_ge g.length φ.length with h | h
  · exfalso
    obtain ⟨iv, hu, hi1, hi2⟩ := unit_prime hp hφ hφ0
    have hz := dv_small (litF_end φ) hφ0 hi2 hd (fun j hj => by rw [litF_end g j (by omega), Nat.zero_mod]) (g.length - 1)
    rw [Nat.mod_eq_of_lt (hg.1 _)] at hz
    exact hg.last h0 hz
  · exact h
/-- pairwise coprime divisors: their degrees add up -/
theorem cop_count {d : Nat} (hp : Mr.Pr p) (hp2 : p ≤ 65535) : ∀ (I : List (List Nat)) (g : List Nat), LR p g → 0 < g.length → g.length ≤ 250 → (∀ φ, φ ∈ I → LR p φ ∧ φ.length = d + 1 ∧ Dv p (litF φ) (litF g)) → I.Pairwise (fun φ ψ => Un p hp.pos ψ φ) → d * I.length + 1 ≤ g.length
  | [], g, _, h0, _, _, _ => by show d * 0 + 1 ≤ _; omega
  | φ :: I, g, hg, h0, hl, hI, hP => by
    obtain ⟨a1, a2, a3⟩ := hI φ (by simp)
    obtain ⟨hP1, hP2⟩ := List.pairwise_cons.1 hP
    obtain ⟨q1, q2, q3⟩ := dmQ_law hp (by omega) hg a1 (by omega) (by omega) (by
      have h5 := dv_len hp hg h0 a1 (by omega) a3
      omega) a3
    obtain ⟨n1, n2, _⟩ := quo_len hp hg h0 a1 (by omega) q1 q3
    have ih := cop_count (d := d) hp hp2 I (dmQ p g φ) q1 n1 (by omega) (fun ψ hψ => by
      obtain ⟨b1, b2, b3⟩ := hI ψ (by simp [hψ])
      exact ⟨b1, b2, (hP1 ψ hψ).cancel q3 b3⟩) hP2
    rw [List.length_cons, Nat.mul_succ]
    omega
end
end Go.Proofs.Ytkklacgoeopekaa

namespace Go.Proofs.Ytkklacgoeopekaa
open Go.RowKit
set_option linter.unusedVariables false

/-- a family of monic polynomials of degree d, and the values of the characters -/
structure Fam (p d : Nat) (hp : Mr.Pr p) (Φ : List (List Nat)) (κ : List Nat → Nat → Nat) : Prop where
  lr : ∀ φ, φ ∈ Φ → LR p φ
  len : ∀ φ, φ ∈ Φ → φ.length = d + 1
  one : ∀ φ, φ ∈ Φ → litF φ d = 1
  cop : ∀ φ ψ, φ ∈ Φ → ψ ∈ Φ → φ ≠ ψ → Un p hp.pos φ ψ
  klt : ∀ φ c, κ φ c < p
  chr : ∀ φ c, φ ∈ Φ → c < p → Rg.lprod ((List.range d).map fun j => lv p hp.pos (litF φ) [c, 1] ^ (p ^ j)) ^ ((p - 1) / 2) = ((κ φ c : Nat) : KR p hp.pos (litF φ))
  sep : ∀ φ ψ, φ ∈ Φ → ψ ∈ Φ → φ ≠ ψ → ∃ c, c < p ∧ ¬ (κ φ c = 1 ↔ κ ψ c = 1)
/-- a product of some of the family -/
structure FP (p d : Nat) (Φ : List (List Nat)) (f : List Nat) (I : List (List Nat)) : Prop where
  sub : ∀ φ, φ ∈ I → φ ∈ Φ
  nd : I.Nodup
  lr : LR p f
  len : f.length = d * I.length + 1
  one : litF f (d * I.length) = 1
  dv : ∀ φ, φ ∈ I → Dv p (litF φ) (litF f)
section
variable {p : Nat}
theorem list_ext {a b : List Nat} (h : a.length = b.length) (e : ∀ j, litF a j = litF b j) : a = b := by
  refine List.ext_getElem h fun i h1 h2 => ?_
  have h3 := e i
  unfold litF at h3
  rw [List.getD_eq_getElem?_getD, List.getD_eq_getElem?_getD, List.getElem?_eq_getElem h1, List.getElem?_eq_getElem h2] at h3
  exact h3
theorem Fam.pair {d : Nat} {hp : Mr.Pr p} {Φ : List (List Nat)} {κ : List Nat → Nat → Nat} (h : Fam p d hp Φ κ) {I : List (List Nat)} (hs : ∀ φ, φ ∈ I → φ ∈ Φ) (hn : I.Nodup) : I.Pairwise (fun φ ψ => Un p hp.pos ψ φ) := by
  have h1 : I.Pairwise (· ≠ ·) := hn
  refine List.Pairwise.imp_of_mem ?_ h1
  intro a b ha hb hab
  exact h.cop b a (hs b hb) (hs a ha) fun e => hab e.symm
theorem FP.single {d : Nat} {hp : Mr.Pr p} {Φ : List (List Nat)} {κ : List Nat → Nat → Nat} (hF : Fam p d hp Φ κ) (hp2 : p ≤ 65535) {f φ : List Nat} (h : FP p d Φ f [φ]) (hd : d ≤ 60) : f = φ := by
  have hφ := h.sub φ (by simp)
  have l1 := hF.len φ hφ
  have l2 := h.len
  have l3 := h.one
  rw [List.length_singleton, Nat.mul_one] at l2 l3
  obtain ⟨q1, q2, q3⟩ := dmQ_law hp (by omega) h.lr (hF.lr φ hφ) (by omega) (by omega) (by omega) (h.dv φ (by simp))
  obtain ⟨n1, n2, n3⟩ := quo_len hp h.lr (by omega) (hF.lr φ hφ) (by omega) q1 q3
  have n4 : (dmQ p f φ).length = 1 := by omega
  have hz : litF (dmQ p f φ) = oneF (litF (dmQ p f φ) 0) := funext fun j => by
    unfold oneF
    split
    · rename_i e; rw [e]
    · exact litF_end _ j (by omega)
  rw [n4, ← q3, l1, show 1 + (d + 1) - 2 = d by omega, l3, show d + 1 - 1 = d by omega, hF.one φ hφ, Nat.mul_one, show 1 - 1 = 0 from rfl, Nat.mod_eq_of_lt (q1.1 0)] at n3
  refine list_ext (by omega) fun j => ?_
  rw [q3, hz]
  rw [show litF (dmQ p f φ) 0 = 1 from n3.symm, mulF_conv, conv_oneF, Nat.one_mul, Nat.mod_eq_of_lt ((hF.lr φ hφ).1 j)]
/-- the divisor that a linear candidate leads to -/
theorem FP.gL_law {d c : Nat} {hp : Mr.Pr p} {Φ : List (List Nat)} {κ : List Nat → Nat → Nat} (hF : Fam p d hp Φ κ) (h3 : 3 ≤ p) (hp2 : p ≤ 65535) {f : List Nat} {I : List (List Nat)} (h : FP p d Φ f I) (hd : 1 ≤ d) (hI : 2 ≤ I.length) (hdI : d * I.length ≤ 60) (hc : c < p) :
    FP p d Φ (gL p d f (p + c)) (I.filter fun φ => κ φ c == 1) ∧ FP p d Φ (dmQ p f (gL p d f (p + c))) (I.filter fun φ => !(κ φ c == 1)) := by
  have hlen := h.len
  have hp3 : p ≤ 2147483647 := by omega
  have hdI2 : 2 ≤ d * I.length := Nat.le_trans hI (Nat.le_mul_of_pos_left _ hd)
  obtain ⟨_, c1, c2⟩ := chr_bounds (c := c) (d := d) hp hp2 h.lr (by omega) (by omega) hc
  have hcv := fun φ (hφ : φ ∈ I) => (chr_lv (c := c) (d := d) (φ := litF φ) hp hp2 h.lr (by omega) (by omega) hc (lv_zero_iff.2 (h.dv φ hφ))).trans (hF.chr φ c (h.sub φ hφ) hc)
  have eg : gL p d f (p + c) = gcL p f (sbL p (chrL p d [c, 1] f) [1]) := by
    unfold gL
    rw [hlen, Nat.add_sub_cancel, cand_lin hdI2 hp.1 hc]
  obtain ⟨C, hC⟩ : ∃ C, chrL p d [c, 1] f = C := ⟨_, rfl⟩
  rw [hC] at c1 c2 hcv eg
  obtain ⟨s1, s2, _⟩ := sbL_law hp hp3 c1 (by omega)
  have s3 := fun φ : List Nat => sbL_lv (φ := litF φ) hp hp3 c1 (by omega)
  obtain ⟨S, hS⟩ : ∃ S, sbL p C [1] = S := ⟨_, rfl⟩
  rw [hS] at s1 s2 s3 eg
  obtain ⟨g1, g2, g3, g4, g5, g6⟩ := gcL_law hp hp3 h.lr s1 (by omega) (by omega)
  obtain ⟨G, hG⟩ : ∃ G, gcL p f S = G := ⟨_, rfl⟩
  rw [hG] at g1 g2 g3 g4 g5 g6 eg
  rw [eg]
  have hpos : 0 < G.length := by
    rcases Nat.eq_zero_or_pos G.length with e | e
    · exfalso
      rw [show litF G = fun _ => 0 from funext fun j => litF_end G j (by omega)] at g4
      have h5 := g4.of_zero h.lr.1 (d * I.length)
      have h6 := h.one
      have h5' : litF f (d * I.length) = 0 := h5
      omega
    · exact e
  have gl := dv_len hp h.lr (by omega) g1 hpos g4
  obtain ⟨q1, q2, q3⟩ := dmQ_law hp hp3 h.lr g1 hpos (by omega) (by omega) g4
  obtain ⟨n1, n2, n3⟩ := quo_len hp h.lr (by omega) g1 hpos q1 q3
  obtain ⟨H, hH⟩ : ∃ H, dmQ p f G = H := ⟨_, rfl⟩
  rw [hH] at q1 q2 q3 n1 n2 n3 ⊢
  have hdv1 : ∀ φ, φ ∈ I.filter (fun φ => κ φ c == 1) → Dv p (litF φ) (litF G) := fun φ hφ => by
    obtain ⟨m1, m2⟩ := List.mem_filter.1 hφ
    have hk : κ φ c = 1 := by simpa using m2
    have v1 := s3 φ
    rw [hcv φ m1, hk, Rg.cast_one] at v1
    have v2 : lv p hp.pos (litF φ) S = 0 := by
      generalize lv p hp.pos (litF φ) S = A at v1
      exact rg1 [A] v1 (1) (by decide +kernel)
    exact g6 _ (h.dv φ m1) (lv_zero_iff.1 v2)
  have hdv2 : ∀ φ, φ ∈ I.filter (fun φ => !(κ φ c == 1)) → Dv p (litF φ) (litF H) := fun φ hφ => by
    obtain ⟨m1, m2⟩ := List.mem_filter.1 hφ
    have hk : κ φ c ≠ 1 := by simpa using m2
    have hkl := hF.klt φ c
    have v1 := s3 φ
    rw [hcv φ m1] at v1
    -- a unit of the residues
    have hnd : ¬ p ∣ κ φ c + (p - 1) := fun hdvd => by
      have e1 := Nat.mod_eq_zero_of_dvd hdvd
      rcases Nat.eq_zero_or_pos (κ φ c) with e | e
      · rw [e, Nat.zero_add, Nat.mod_eq_of_lt (by omega)] at e1; omega
      · rw [show κ φ c + (p - 1) = κ φ c - 1 + p by omega, Nat.add_mod_right, Nat.mod_eq_of_lt (by omega)] at e1; omega
    have hfl := Mr.flt hp hnd
    have hu : ((κ φ c + (p - 1) : Nat) : KR p hp.pos (litF φ)) * (((κ φ c + (p - 1)) ^ (p - 2) : Nat) : KR p hp.pos (litF φ)) = 1 := by
      rw [← Rg.cast_mul, Nat.mul_comm, ← Nat.pow_succ, show (p - 2).succ = p - 1 by omega, ← Rg.cast_mod KR.p0, hfl, Rg.cast_mod KR.p0, Rg.cast_one]
    have hm1 : ((p - 1 : Nat) : KR p hp.pos (litF φ)) = -1 := by
      have e1 : ((p - 1 + 1 : Nat) : KR p hp.pos (litF φ)) = 0 := by rw [Nat.sub_add_cancel hp.pos]; exact KR.p0
      rw [Rg.cast_add, Rg.cast_one] at e1
      generalize ((p - 1 : Nat) : KR p hp.pos (litF φ)) = A at e1
      exact rg1 [A] e1 (1) (by decide +kernel)
    rw [Rg.cast_add, hm1] at hu
    -- G divides S
    obtain ⟨q, N, hq1, hq2⟩ := g5
    have v3 : lv p hp.pos (litF φ) S = fv p hp.pos (litF φ) q * lv p hp.pos (litF φ) G := by
      unfold lv
      rw [← fv_conv hq1 (litF_end G)]
      exact fv_mod (litF_end S) (fun j (hj : N + G.length ≤ j) => conv_ext hq1 (litF_end G) j (by omega)) hq2
    have hun : Un p hp.pos φ G := by
      refine ⟨fv p hp.pos (litF φ) q * (((κ φ c + (p - 1)) ^ (p - 2) : Nat) : KR p hp.pos (litF φ)), ?_⟩
      generalize (((κ φ c + (p - 1)) ^ (p - 2) : Nat) : KR p hp.pos (litF φ)) = W at hu ⊢
      generalize ((κ φ c : Nat) : KR p hp.pos (litF φ)) = K at hu v1
      generalize lv p hp.pos (litF φ) S = A at v1 v3
      generalize fv p hp.pos (litF φ) q = Q at v3 ⊢
      generalize lv p hp.pos (litF φ) G = B at v3 ⊢
      exact rg3 [A, B, K, Q, W] v3 (-W) v1 (W) hu (1) (by decide +kernel)
    exact hun.cancel q3 (h.dv φ m1)
  have hs1 : ∀ φ, φ ∈ I.filter (fun φ => κ φ c == 1) → φ ∈ Φ := fun φ hφ => h.sub φ (List.mem_filter.1 hφ).1
  have hs2 : ∀ φ, φ ∈ I.filter (fun φ => !(κ φ c == 1)) → φ ∈ Φ := fun φ hφ => h.sub φ (List.mem_filter.1 hφ).1
  have hn1 : (I.filter fun φ => κ φ c == 1).Nodup := h.nd.filter _
  have hn2 : (I.filter fun φ => !(κ φ c == 1)).Nodup := h.nd.filter _
  have k1 := cop_count (d := d) hp hp2 _ G g1 hpos (by omega) (fun φ hφ => ⟨hF.lr φ (hs1 φ hφ), hF.len φ (hs1 φ hφ), hdv1 φ hφ⟩) (hF.pair hs1 hn1)
  have k2 := cop_count (d := d) hp hp2 _ H q1 n1 (by omega) (fun φ hφ => ⟨hF.lr φ (hs2 φ hφ), hF.len φ (hs2 φ hφ), hdv2 φ hφ⟩) (hF.pair hs2 hn2)
  have k3 : (I.filter fun φ => κ φ c == 1).length + (I.filter fun φ => !(κ φ c == 1)).length = I.length := by
    clear k1 k2 hn1 hn2 hs1 hs2 hdv1 hdv2 hcv
    generalize I = J
    induction J with
    | nil => rfl
    | cons a J ih =>
      rw [List.filter_cons, List.filter_cons]
      by_cases h : (κ a c == 1) = true
      · rw [if_pos h, if_neg (by simp [h])]; simp only [List.length_cons]; omega
      · rw [if_neg h, if_pos (by simpa using h)]; simp only [List.length_cons]; omega
  have k4 : d * (I.filter fun φ => κ φ c == 1).length + d * (I.filter fun φ => !(κ φ c == 1)).length = d * I.length := by rw [← Nat.mul_add, k3]
  refine ⟨⟨hs1, hn1, g1, by omega, ?_, hdv1⟩, ⟨hs2, hn2, q1, by omega, ?_, hdv2⟩⟩
  · exact (congrArg (litF G) (show d * (I.filter fun φ => κ φ c == 1).length = G.length - 1 by omega)).trans (g3 hpos)
  · rw [← q3, show H.length + G.length - 2 = d * I.length by omega, h.one, g3 hpos, Nat.mul_one, Nat.mod_eq_of_lt (q1.1 _)] at n3
    exact (congrArg (litF H) (show d * (I.filter fun φ => !(κ φ c == 1)).length = H.length - 1 by omega)).trans n3.symm
theorem fam_tree {d : Nat} {hp : Mr.Pr p} {Φ : List (List Nat)} {κ : List Nat → Nat → Nat} (hF : Fam p d hp Φ κ) (h3 : 3 ≤ p) (hp2 : p ≤ 65535) (hd : 1 ≤ d) : ∀ (n : Nat) (f : List Nat) (I : List (List Nat)), I.length = n → 1 ≤ n → d * n ≤ 60 → FP p d Φ f I → ∃ L, SplT p d f L ∧ L.Perm I := by
  intro n
  induction n using Nat.strongRecOn with
  | _ n ih =>
    intro f I hn h1 h60 h
    have hlen := h.len
    rw [hn] at hlen
    by_cases h2 : n = 1
    · match I, hn, h with
      | [φ], _, h =>
        have e := h.single hF hp2 (by subst h2; omega)
        subst e
        exact ⟨[f], SplT.leaf f (by rw [hlen, h2, Nat.mul_one]), List.Perm.refl _⟩
      | [], hn, _ => exact absurd hn (by simp; omega)
      | _ :: _ :: _, hn, _ => exact absurd hn (by simp; omega)
    · obtain ⟨φ1, φ2, m1, m2, hne⟩ : ∃ φ1 φ2, φ1 ∈ I ∧ φ2 ∈ I ∧ φ1 ≠ φ2 := by
        match I, hn, h with
        | a :: b :: I', _, h =>
          refine ⟨a, b, by simp, by simp, fun e => ?_⟩
          have := (List.nodup_cons.1 h.nd).1
          rw [e] at this
          exact this (by simp)
        | [a], hn, _ => exact absurd hn.symm (by simpa using h2)
        | [], hn, _ => exact absurd hn.symm (by simp; omega)
      have hlt : ∀ m, m < n → d * m + 1 ≤ d * n := fun m hm => by
        have : d * (m + 1) ≤ d * n := Nat.mul_le_mul_left d hm
        rw [Nat.mul_succ] at this
        omega
      have hdn : 2 ≤ d * n := Nat.le_trans (by omega) (Nat.le_mul_of_pos_left _ hd)
      have hsp : ∀ c, c < p → FP p d Φ (gL p d f (p + c)) (I.filter fun φ => κ φ c == 1) ∧ FP p d Φ (dmQ p f (gL p d f (p + c))) (I.filter fun φ => !(κ φ c == 1)) := fun c hc => h.gL_law hF h3 hp2 hd (by omega) (by rw [hn]; exact h60) hc
      have hcnt : ∀ c, (I.filter fun φ => κ φ c == 1).length + (I.filter fun φ => !(κ φ c == 1)).length = n := fun c => by
        rw [← hn]
        clear h hlen hn m1 m2 hsp
        generalize I = J
        induction J with
        | nil => rfl
        | cons a J ih =>
          rw [List.filter_cons, List.filter_cons]
          by_cases h : (κ a c == 1) = true
          · rw [if_pos h, if_neg (by simp [h])]; simp only [List.length_cons]; omega
          · rw [if_neg h, if_pos (by simpa using h)]; simp only [List.length_cons]; omega
      obtain ⟨c, hc, hsep⟩ := hF.sep φ1 φ2 (h.sub φ1 m1) (h.sub φ2 m2) hne
      have hgood : 1 < (gL p d f (p + c)).length ∧ (gL p d f (p + c)).length < f.length := by
        obtain ⟨F1, F2⟩ := hsp c hc
        have q0 := hcnt c
        have q1 := F1.len
        have key : ∀ a b, a ∈ I → b ∈ I → κ a c = 1 → κ b c ≠ 1 → 1 ≤ (I.filter fun φ => κ φ c == 1).length ∧ 1 ≤ (I.filter fun φ => !(κ φ c == 1)).length := fun a b ha hb h5 h6 =>
          ⟨List.length_pos_of_mem (List.mem_filter.2 ⟨ha, by simp [h5]⟩), List.length_pos_of_mem (List.mem_filter.2 ⟨hb, by simp [h6]⟩)⟩
        have fin : 1 ≤ (I.filter fun φ => κ φ c == 1).length ∧ 1 ≤ (I.filter fun φ => !(κ φ c == 1)).length → 1 < (gL p d f (p + c)).length ∧ (gL p d f (p + c)).length < f.length := fun ⟨w1, w2⟩ => by
          have e1 := hlt (I.filter fun φ => κ φ c == 1).length (by omega)
          have e2 : d * 1 ≤ d * (I.filter fun φ => κ φ c == 1).length := Nat.mul_le_mul_left d w1
          omega
        rcases Classical.em (κ φ1 c = 1) with a1 | a1
        · rcases Classical.em (κ φ2 c = 1) with a2 | a2
          · exact absurd ⟨fun _ => a2, fun _ => a1⟩ hsep
          · exact fin (key φ1 φ2 m1 m2 a1 a2)
        · rcases Classical.em (κ φ2 c = 1) with a2 | a2
          · exact fin (key φ2 φ1 m2 m1 a2 a1)
          · exact absurd ⟨fun e => absurd e a1, fun e => absurd e a2⟩ hsep
      obtain ⟨k, k1, k2, k3, k4⟩ := lin_first (P := fun k => 1 < (gL p d f k).length ∧ (gL p d f k).length < f.length) (a := p) (p + c) (by omega) hgood
      obtain ⟨c', rfl⟩ : ∃ c', k = p + c' := ⟨k - p, by omega⟩
      have hc' : c' < p := by omega
      obtain ⟨F1, F2⟩ := hsp c' hc'
      have q0 := hcnt c'
      have q1 := F1.len
      have q2 := F2.len
      have w1 : 1 ≤ (I.filter fun φ => κ φ c' == 1).length := by
        rcases Nat.eq_zero_or_pos (I.filter fun φ => κ φ c' == 1).length with e | e
        · rw [e, Nat.mul_zero] at q1; omega
        · exact e
      have w2 : 1 ≤ (I.filter fun φ => !(κ φ c' == 1)).length := by
        rcases Nat.eq_zero_or_pos (I.filter fun φ => !(κ φ c' == 1)).length with e | e
        · rw [show (I.filter fun φ => κ φ c' == 1).length = n by omega] at q1; omega
        · exact e
      have e1 := hlt (I.filter fun φ => κ φ c' == 1).length (by omega)
      have e2 := hlt (I.filter fun φ => !(κ φ c' == 1)).length (by omega)
      obtain ⟨M1, t1, t2⟩ := ih _ (by omega) _ _ rfl w1 (by omega) F1
      obtain ⟨M2, s1, s2⟩ := ih _ (by omega) _ _ rfl w2 (by omega) F2
      refine ⟨M1 ++ M2, SplT.node f (p + c') M1 M2 (fun e => ?_) (by omega) (by omega) (fun j j1 j2 => ?_) k4 k3 t1 s1, ?_⟩
      · have : d * 2 ≤ d * n := Nat.mul_le_mul_left d (by omega)
        omega
      · obtain ⟨e, rfl⟩ : ∃ e, j = p + e := ⟨j - p, by omega⟩
        have he : e < p := by omega
        obtain ⟨b1, b2, b3⟩ := chr_bounds (c := e) (d := d) hp hp2 h.lr (by omega) (by omega) he
        rw [hlen, Nat.add_sub_cancel, cand_lin (by omega) hp.1 he]
        rw [hlen] at b3
        exact ⟨b1, by omega⟩
      · exact (t2.append s2).trans (List.filter_append_perm (fun φ => κ φ c' == 1) I)
end
end Go.Proofs.Ytkklacgoeopekaa
