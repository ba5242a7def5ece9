/- The contracts of poly.value and poly.Eval, and of the reference's Value and Eval. -/
import Derived.Test.YtkklacgoeopekaaAlg
namespace Go.Proofs.Ytkklacgoeopekaa
open Go.RowKit

/-- the value of the elements from t on -/
def horF (a : Nat → Nat) (x n t : Nat) : Nat := sumN (fun i => a (t + i) * x ^ i) (n - t)

theorem sumN_shift (f : Nat → Nat) : ∀ n, sumN f (n + 1) = f 0 + sumN (fun i => f (i + 1)) n
  | 0 => by simp [sumN]
  | n + 1 => by rw [sumN, sumN_shift f n, sumN, Nat.add_assoc]
theorem sumN_mul (c : Nat) (f : Nat → Nat) : ∀ n, sumN (fun i => c * f i) n = c * sumN f n
  | 0 => rfl
  | n + 1 => by rw [sumN, sumN, sumN_mul c f n, Nat.mul_add]
theorem horF_step (a : Nat → Nat) (x n t : Nat) (h : t < n) : horF a x n t = a t + horF a x n (t + 1) * x := by
  unfold horF
  obtain ⟨k, hk⟩ : ∃ k, n - t = k + 1 := ⟨n - t - 1, by omega⟩
  rw [hk, sumN_shift, show n - (t + 1) = k from by omega, Nat.pow_zero, Nat.mul_one, Nat.add_zero, Nat.mul_comm _ x, ← sumN_mul]
  congr 1
  exact sumN_congr k fun i _ => by rw [Nat.pow_succ, show t + (i + 1) = t + 1 + i from by omega, Nat.mul_comm (x ^ i) x, Nat.mul_left_comm]
theorem horF_end (a : Nat → Nat) (x n : Nat) : horF a x n n = 0 := by unfold horF; rw [Nat.sub_self]; rfl

/-- the value of a polynomial modulo m -/
def valF (m n : Nat) (a : Nat → Nat) (x : Nat) : Nat := sumN (fun i => a i * x ^ i) n % m
theorem valF_hor (m n : Nat) (a : Nat → Nat) (x : Nat) : horF a x n 0 % m = valF m n a x := by
  unfold horF valF
  rw [Nat.sub_zero]
  congr 1
  exact sumN_congr n fun i _ => by rw [Nat.zero_add]
theorem valF_lt {m : Nat} (hm : 0 < m) (n : Nat) (a : Nat → Nat) (x : Nat) : valF m n a x < m := Nat.mod_lt _ hm

def ValS (m n : Nat) (a : Nat → Nat) (x : Nat) (v i : Value) : Prop := ∃ t : Nat, t ≤ n ∧ i = .int .i64 ((t : Int) - 1) ∧ v = .int .u64 ((horF a x n t % m : Nat) : Int)

def ValR (m n : Nat) (a : Nat → Nat) (x : Nat) (s p i : Value) : Prop := ∃ t : Nat, t ≤ n ∧ i = .int .i64 t ∧ s = .int .u64 ((sumN (fun i => a i * x ^ i) t % m : Nat) : Int) ∧ p = .int .u64 ((x ^ t % m : Nat) : Int)

def evE (m n : Nat) (a : Nat → Nat) (x : Nat) : Nat := if chk m n a = 0 then (if m ≤ x then 2 else 0) else chk m n a
def evV (m n : Nat) (a : Nat → Nat) (x : Nat) : Nat := if evE m n a x = 0 then valF m n a x else 0

end Go.Proofs.Ytkklacgoeopekaa
