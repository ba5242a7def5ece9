/- Euclid's rule on polynomials modulo a prime, plain. -/
import Derived.Test.YtoifjkandmnakaaRest
import Derived.Test.YtoifjkandmnakaaMrA
namespace Go.Proofs.Ytoifjkandmnakaa
open Go.RowKit

def gcdP (m : Nat) : Nat → Nat × (Nat → Nat) → Nat × (Nat → Nat) → Nat × (Nat → Nat)
  | 0, x, _ => x
  | k + 1, x, y => if y.1 = 0 then x else gcdP m k y (restP m y.1 y.2 (unitF m y.1 y.2).1 x)
theorem gcdP_zero {m : Nat} {x y : Nat × (Nat → Nat)} (h : y.1 = 0) : ∀ k, gcdP m k x y = x
  | 0 => rfl
  | _ + 1 => if_pos h
theorem gcdP_succ {m k : Nat} {x y : Nat × (Nat → Nat)} (h : y.1 ≠ 0) : gcdP m (k + 1) x y = gcdP m k y (restP m y.1 y.2 (unitF m y.1 y.2).1 x) := if_neg h

/-- modulo a prime each leading element has its inverse -/
theorem unit_prime {m n : Nat} {f : Nat → Nat} (hp : Mr.Pr m) (hr : Res m (n, f)) (hn : 0 < n) : ∃ iv, unitF m n f = (iv, true) ∧ iv < m ∧ iv * f (n - 1) % m = 1 % m := by
  obtain ⟨h1, _, h3⟩ := hr
  have h0 : f (n - 1) ≠ 0 := by
    have h4 := tl_last f n (by show 0 < tl f n; rw [show tl f n = n from h3]; exact hn)
    rw [show tl f n = n from h3] at h4
    exact h4
  have hlt : f (n - 1) < m := h1 _
  have hg : Nat.gcd m (f (n - 1)) = 1 := hp.coprime fun hd => by have := Nat.le_of_dvd (by omega) hd; omega
  have hu := unitF_yes hn hg
  obtain ⟨_, a2, a3⟩ := unitF_true hu hp.1 hlt
  exact ⟨_, hu, a2, a3⟩
/-- the result: the last rest, with leading element 1 -/
def gcdF (m n : Nat) (a : Nat → Nat) (nb : Nat) (b : Nat → Nat) : Nat × (Nat → Nat) :=
  let x := gcdP m 301 (n, a) (nb, b)
  if x.1 = 0 then (0, fun _ => 0) else prodP m x (1, oneF (unitF m x.1 x.2).1)
end Go.Proofs.Ytoifjkandmnakaa
