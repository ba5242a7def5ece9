/- The law SlotsProducts: sums and products of lists and of their vectors, in plain words. -/
import Derived.Test.YtcnkddoipmaddaaAut8
namespace Go.Proofs.Ytcnkddoipmaddaa
open Go.RowKit
set_option linter.unusedVariables false

/-- the product so far: i rows, k columns -/
def PI (q n : Nat) (A B f : Nat → Int) (i k : Nat) : Prop := (∀ t, t < n → -(q : Int) < f t ∧ f t < (q : Int)) ∧ ∀ y : Int, Cg q (y ^ n) (-1) →
  Cg q (zsum (fun t => f t * y ^ t) n) (zsum (fun j => A j * y ^ j) i * zsum (fun j => B j * y ^ j) n + A i * y ^ i * zsum (fun j => B j * y ^ j) k)
theorem PI.start {q n : Nat} {A B : Nat → Int} (hq : 0 < q) : PI q n A B (fun _ => 0) 0 0 := by
  refine ⟨fun t _ => ⟨by show -(q : Int) < 0; omega, by show (0 : Int) < (q : Int); omega⟩, fun y _ => Cg.of_eq ?_⟩
  rw [zsum_zero n (fun i _ => by dsimp only; rw [Int.zero_mul])]
  show (0 : Int) = 0 * _ + A 0 * y ^ 0 * 0
  simp
theorem PI.row {q n i : Nat} {A B f : Nat → Int} (h : PI q n A B f i n) : PI q n A B f (i + 1) 0 := by
  refine ⟨h.1, fun y hy => (h.2 y hy).trans (Cg.of_eq ?_)⟩
  show _ = (zsum (fun j => A j * y ^ j) i + A i * y ^ i) * zsum (fun j => B j * y ^ j) n + A (i + 1) * y ^ (i + 1) * 0
  rw [Int.mul_zero, Int.add_zero, Int.add_mul]
theorem PI.low {q n i k : Nat} {A B f : Nat → Int} {v : Int} (h : PI q n A B f i k) (hlt : i + k < n) (hv : Cg q v (f (i + k) + A i * B k)) (h1 : -(q : Int) < v) (h2 : v < (q : Int)) : PI q n A B (fun t => if t = i + k then v else f t) i (k + 1) := by
  refine ⟨fun t ht => ?_, fun y hy => ?_⟩
  · dsimp only
    split
    · exact ⟨h1, h2⟩
    · exact h.1 t ht
  · rw [zsum_set hlt]
    have e := ((hv.sub (Cg.refl q (f (i + k)))).mul (Cg.refl q (y ^ (i + k))))
    refine ((h.2 y hy).add e).trans (Cg.of_eq ?_)
    show _ = _ + A i * y ^ i * (zsum (fun j => B j * y ^ j) k + B k * y ^ k)
    rw [Int.pow_add]
    grind
theorem PI.high {q n i k : Nat} {A B f : Nat → Int} {v : Int} (h : PI q n A B f i k) (hge : n ≤ i + k) (hlt : i + k - n < n) (hv : Cg q v (f (i + k - n) - A i * B k)) (h1 : -(q : Int) < v) (h2 : v < (q : Int)) : PI q n A B (fun t => if t = i + k - n then v else f t) i (k + 1) := by
  refine ⟨fun t ht => ?_, fun y hy => ?_⟩
  · dsimp only
    split
    · exact ⟨h1, h2⟩
    · exact h.1 t ht
  · rw [zsum_set hlt]
    have e := ((hv.sub (Cg.refl q (f (i + k - n)))).mul (Cg.refl q (y ^ (i + k - n))))
    refine ((h.2 y hy).add e).trans ?_
    have e1 : y ^ (i + k) = y ^ (i + k - n) * y ^ n := by rw [← Int.pow_add, Nat.sub_add_cancel hge]
    have e2 := (Cg.refl q (A i * B k * y ^ (i + k - n))).mul hy
    have e3 : A i * B k * y ^ (i + k - n) * y ^ n = A i * y ^ i * (B k * y ^ k) := by
      rw [Int.mul_assoc (A i * B k), ← e1, Int.pow_add]
      grind
    rw [e3] at e2
    have e4 : Cg q ((f (i + k - n) - A i * B k - f (i + k - n)) * y ^ (i + k - n)) (A i * y ^ i * (B k * y ^ k)) := Cg.trans (Cg.of_eq (by grind)) e2.symm
    refine ((Cg.refl q _).add e4).trans (Cg.of_eq ?_)
    show _ = _ + A i * y ^ i * (zsum (fun j => B j * y ^ j) k + B k * y ^ k)
    rw [Int.mul_add]
    omega
theorem decZ_pow {n x j : Nat} {a : Nat → Int} : decZ n x a j = zsum (fun i => a i * ((x : Int) ^ exN n j) ^ i) n := by
  unfold decZ
  refine zsum_congr n fun i _ => ?_
  rw [← Int.pow_mul, Nat.mul_comm]
/-- the vector of a sum -/
theorem dec_add {q n x j : Nat} {a b : Nat → Int} (hj : j < n) : decF q n x (fun t => if t < n then bal q (a t + b t) else 0) j = bal q (decF q n x a j + decF q n x b j) := by
  unfold decF
  simp only [if_pos hj]
  refine bal_congr (Cg.trans ?_ ((bal_cg q _).add (bal_cg q _)).symm)
  have h1 : Cg q (decZ n x (fun t => if t < n then bal q (a t + b t) else 0) j) (decZ n x (fun t => a t + b t) j) := decZ_cg fun i hi => by
    rw [if_pos hi]
    exact bal_cg q _
  refine h1.trans (Cg.of_eq ?_)
  unfold decZ
  rw [← zsum_add]
  exact zsum_congr n fun i _ => by rw [Int.add_mul]
/-- the vector of a product -/
theorem dec_mul {p n e x j : Nat} {a b f : Nat → Int} {t : Int} (hd : dim8 n) (hz : Zr p n e x) (hj : j < n) (hf : PI (p ^ e) n a b f n 0) (ht : Cg (p ^ e) t (decF (p ^ e) n x a j * decF (p ^ e) n x b j)) : decF (p ^ e) n x (fun t => if t < n then bal (p ^ e) (f t) else f t) j = bal (p ^ e) t := by
  have hE := (ex_fact hd j hj).1
  have hy : Cg (p ^ e) (((x : Int) ^ exN n j) ^ n) (-1) := by
    rw [← Int.pow_mul, Nat.mul_comm, Int.pow_mul]
    have h2 := hz.neg.pow (exN n j)
    have h3 : (-1 : Int) ^ exN n j = -1 := by
      obtain ⟨t, ht⟩ : ∃ t, exN n j = 2 * t + 1 := ⟨exN n j / 2, by omega⟩
      rw [ht, Int.pow_succ, Int.pow_mul]
      simp [Int.one_pow]
    rwa [h3] at h2
  have h1 := hf.2 _ hy
  have h2 : zsum (fun j => b j * ((x : Int) ^ exN n j) ^ j) 0 = 0 := rfl
  show (if j < n then bal (p ^ e) (decZ n x _ j) else 0) = _
  rw [if_pos hj]
  refine bal_congr (Cg.trans ?_ ht.symm)
  have h3 : Cg (p ^ e) (decZ n x (fun t => if t < n then bal (p ^ e) (f t) else f t) j) (decZ n x f j) := decZ_cg fun i hi => by
    rw [if_pos hi]
    exact bal_cg _ _
  refine h3.trans ?_
  rw [decZ_pow]
  refine h1.trans ?_
  refine Cg.trans (Cg.of_eq (b := decZ n x a j * decZ n x b j) ?_) ((decF_cg hj).mul (decF_cg hj)).symm
  rw [decZ_pow, decZ_pow]
  show _ + _ * (0 : Int) = _
  rw [Int.mul_zero, Int.add_zero]
theorem bal_mul2 {q : Nat} {y z : Int} (hq : q ≤ 2147483647) (hy : -((q / 2 : Nat) : Int) ≤ y ∧ y ≤ ((q / 2 : Nat) : Int)) (hz : -((q / 2 : Nat) : Int) ≤ z ∧ z ≤ ((q / 2 : Nat) : Int)) : -1152921504606846976 ≤ y * z ∧ y * z ≤ 1152921504606846976 := by
  have h0 : (y * z).natAbs ≤ 1073741823 * 1073741823 := by
    rw [Int.natAbs_mul]
    exact Nat.mul_le_mul (by omega) (by omega)
  omega
end Go.Proofs.Ytcnkddoipmaddaa
