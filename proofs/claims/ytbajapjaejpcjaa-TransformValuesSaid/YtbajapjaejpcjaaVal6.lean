/- The plain law of TransformValues: the transform's elements are values at different roots of x^n + 1. -/
import Derived.Test.YtbajapjaejpcjaaFft
namespace Go.Proofs.Ytbajapjaejpcjaa
set_option linter.unusedVariables false

def oneAt (j : Nat) : Nat := if j = 1 then 1 else 0
def plc (q ψ j : Nat) : Nat := ψ ^ (2 * j + 1) % q
theorem fwd_one {q n ψ j : Nat} (hq : 0 < q) (hn : 2 ≤ n) (hj : j < n) : fwd q n ψ oneAt j = plc q ψ j := by
  refine Cg.eq_nat ?_ (fwd_lt hq j) (Nat.mod_lt _ hq)
  refine (fwd_cg hj).trans ?_
  refine Cg.trans ?_ (Cg.powN _ _).symm
  refine Cg.of_eq ?_
  rw [zsum_one (j := 1) n (by omega) (fun i hi hne => by unfold oneAt; rw [if_neg hne]; simp)]
  unfold oneAt
  rw [if_pos rfl, Nat.one_mul]
  simp
theorem plc_cg {q ψ j : Nat} : Cg q ((plc q ψ j : Nat) : Int) ((ψ : Int) ^ (2 * j + 1)) := Cg.powN _ _
theorem plc_lt {q ψ j : Nat} (hq : 0 < q) : plc q ψ j < q := Nat.mod_lt _ hq
theorem plc_neg {q n ψ j : Nat} (h : Rt q n ψ) : plc q ψ j ^ n % q = q - 1 := by
  have hq := h.pr.1
  refine Cg.mod_of ?_ (by omega)
  have h1 := ((plc_cg (q := q) (ψ := ψ) (j := j)).pow n).trans (h.place j)
  have h2 : Cg q (-1) (((q - 1 : Nat) : Nat) : Int) := ⟨-1, by omega⟩
  refine Cg.trans (Cg.of_eq (by simp)) (h1.trans h2)
def valN (P : Nat) (a : Nat → Nat) (i : Nat) : Nat := sumN (fun i => a i * P ^ i) i
theorem plc_val {q n ψ j : Nat} {a : Nat → Nat} (hq : 0 < q) (hj : j < n) : valN (plc q ψ j) a n % q = fwd q n ψ a j := by
  refine Cg.mod_of ?_ (fwd_lt hq j)
  refine Cg.trans ?_ (fwd_val hj).symm
  unfold valN
  rw [zsum_cast]
  refine Cg.sum n fun i _ => ?_
  rw [show (((a i * plc q ψ j ^ i : Nat) : Nat) : Int) = (a i : Int) * ((plc q ψ j : Nat) : Int) ^ i by simp]
  exact Cg.mul (Cg.refl _ _) (plc_cg.pow i)
theorem plc_ne {q n ψ j k : Nat} (h : Rt q n ψ) (hk : k < j) (hj : j < n) : plc q ψ k ≠ plc q ψ j :=
  Ordr.inj h.pr h.ord (show 2 * k + 1 < 2 * j + 1 by omega) (by omega)
theorem valN_next {P q i v x pw : Nat} {a : Nat → Nat} (h : valN P a i % q = v) (hp : P ^ i % q = pw) (hx : a i = x) : valN P a (i + 1) % q = (v + x * pw) % q := by
  show (sumN _ i + a i * P ^ i) % q = _
  rw [hx, ← hp, ← h, ← Nat.add_mod_mod (valN P a i % q) (x * (P ^ i % q)), Nat.mul_mod_mod, Nat.add_mod_mod, Nat.mod_add_mod]
  rfl
theorem pw_next {P q i pw : Nat} (hp : P ^ i % q = pw) : P ^ (i + 1) % q = pw * P % q := by
  rw [Nat.pow_succ, ← hp, Nat.mod_mul_mod]
end Go.Proofs.Ytbajapjaejpcjaa
