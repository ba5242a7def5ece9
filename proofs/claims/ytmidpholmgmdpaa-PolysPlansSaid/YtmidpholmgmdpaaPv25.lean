/- The plain law of a plan's run: it is the value of its polynomial. No program in sight. -/
import Derived.Test.YtmidpholmgmdpaaPl25
import Derived.Test.YtmidpholmgmdpaaV25
namespace Go.Proofs.Ytmidpholmgmdpaa
open Go.RowKit
set_option linter.unusedVariables false

/-- v is the value of p at x -/
def evR (t : Nat) (p : Nat → Int) (x v : Int) : Prop := ∃ N, (∀ q, N ≤ q → p q = 0) ∧ Cg t v (zsum (fun q => p q * x ^ q) N)
theorem zsum_ext0 {f : Nat → Int} {n m : Nat} (hnm : n ≤ m) (h : ∀ j, n ≤ j → f j = 0) : zsum f m = zsum f n := by
  obtain ⟨k, rfl⟩ : ∃ k, m = n + k := ⟨m - n, by omega⟩
  rw [zsum_more, zsum_zero k fun i _ => h (n + i) (by omega), Int.add_zero]
theorem evR.at {t : Nat} {p : Nat → Int} {x v : Int} (h : evR t p x v) {M : Nat} (hM : ∀ q, M ≤ q → p q = 0) : Cg t v (zsum (fun q => p q * x ^ q) M) := by
  obtain ⟨N, h1, h2⟩ := h
  rcases Nat.le_total N M with h3 | h3
  · rw [zsum_ext0 h3 fun j hj => by rw [h1 j hj, Int.zero_mul]]
    exact h2
  · rw [← zsum_ext0 h3 fun j hj => by rw [hM j hj, Int.zero_mul]]
    exact h2
theorem evR.cg {t : Nat} {p : Nat → Int} {x v w : Int} (h : evR t p x v) (e : Cg t w v) : evR t p x w := by
  obtain ⟨N, h1, h2⟩ := h
  exact ⟨N, h1, e.trans h2⟩
theorem evR_dlt1 (t : Nat) (x : Int) : evR t (dlt 1) x x := by
  refine ⟨2, fun q hq => if_neg (by omega), Cg.of_eq ?_⟩
  show x = 0 + dlt 1 0 * x ^ 0 + dlt 1 1 * x ^ 1
  unfold dlt
  rw [if_neg (by omega), if_pos rfl, Int.pow_succ, Int.pow_zero]
  omega
theorem evR_const (t : Nat) (a x : Int) : evR t (fun q => if q = 0 then a else 0) x a := by
  refine ⟨1, fun q hq => if_neg (by omega), Cg.of_eq ?_⟩
  show a = 0 + (if 0 = 0 then a else 0) * x ^ 0
  rw [if_pos rfl, Int.pow_zero]
  omega
theorem evR.add {t : Nat} {p p' : Nat → Int} {x v v' : Int} (h : evR t p x v) (h' : evR t p' x v') : evR t (fun q => p q + p' q) x (v + v') := by
  obtain ⟨N, h1, h2⟩ := h
  obtain ⟨N', h1', h2'⟩ := h'
  have a1 := evR.at ⟨N, h1, h2⟩ (M := N + N') (fun q hq => h1 q (by omega))
  have a2 := evR.at ⟨N', h1', h2'⟩ (M := N + N') (fun q hq => h1' q (by omega))
  refine ⟨N + N', fun q hq => by show p q + p' q = 0; rw [h1 q (by omega), h1' q (by omega)]; rfl, (a1.add a2).trans (Cg.of_eq ?_)⟩
  rw [← zsum_add]
  exact zsum_congr _ fun q _ => (Int.add_mul _ _ _).symm
theorem evR.smul {t : Nat} {p : Nat → Int} {x v : Int} (c : Int) (h : evR t p x v) : evR t (fun q => c * p q) x (c * v) := by
  obtain ⟨N, h1, h2⟩ := h
  refine ⟨N, fun q hq => by show c * p q = 0; rw [h1 q hq, Int.mul_zero], ((Cg.refl t c).mul h2).trans (Cg.of_eq ?_)⟩
  rw [← zsum_mul_left]
  exact zsum_congr _ fun q _ => (Int.mul_assoc _ _ _).symm
theorem evR_zero (t : Nat) (x : Int) : evR t (fun _ => 0) x 0 := ⟨0, fun _ _ => rfl, Cg.refl t _⟩
theorem evR_sum {t : Nat} {P : Nat → Nat → Int} {f cs : Nat → Int} {x : Int} : ∀ n, (∀ k, k < n → evR t (P k) x (f k)) → evR t (fun q => zsum (fun k => cs k * P k q) n) x (zsum (fun k => cs k * f k) n)
  | 0, _ => evR_zero t x
  | n + 1, h => (evR_sum n fun k hk => h k (by omega)).add ((h n (by omega)).smul (cs n))
theorem pow_add' (x : Int) (i j : Nat) : x ^ (i + j) = x ^ i * x ^ j := by
  induction j with
  | zero => rw [Nat.add_zero, Int.pow_zero, Int.mul_one]
  | succ j ih => rw [← Nat.add_assoc, Int.pow_succ, Int.pow_succ, ih, Int.mul_assoc]
theorem evR_cnv {t : Nat} {a b : Nat → Int} {x v v' : Int} (h : evR t a x v) (h' : evR t b x v') : evR t (cnv a b) x (v * v') := by
  obtain ⟨N, h1, h2⟩ := h
  obtain ⟨N', h1', h2'⟩ := h'
  refine ⟨N + N', fun q hq => zsum_zero _ fun i hi => ?_, (h2.mul h2').trans (Cg.of_eq ?_)⟩
  · rcases Nat.lt_or_ge i N with h | h
    · rw [h1' (q - i) (by omega), Int.mul_zero]
    · rw [h1 i h, Int.zero_mul]
  · -- the product of the sums is the sum over all pairs
    have e1 : ∀ q, cnv a b q * x ^ q = zsum (fun i => a i * ((if q < i then 0 else b (q - i)) * x ^ q)) N := fun q => by
      unfold cnv
      rw [← zsum_mul_right]
      rw [zsum_congr (f := fun i => a i * b (q - i) * x ^ q) (g := fun i => a i * ((if q < i then 0 else b (q - i)) * x ^ q)) (q + 1) fun i hi => by rw [if_neg (by omega), Int.mul_assoc]]
      rcases Nat.le_total (q + 1) N with h | h
      · exact (zsum_ext0 h fun j hj => by rw [if_pos (by omega), Int.zero_mul, Int.mul_zero]).symm
      · exact zsum_ext0 h fun j hj => by rw [h1 j hj, Int.zero_mul]
    rw [zsum_congr (f := fun q => cnv a b q * x ^ q) (g := fun q => zsum (fun i => a i * ((if q < i then 0 else b (q - i)) * x ^ q)) N) (N + N') fun q _ => e1 q, zsum_swap, ← zsum_mul_right]
    refine zsum_congr _ fun i hi => ?_
    rw [zsum_mul_left, Int.mul_assoc]
    congr 1
    rw [← zsum_mul_left]
    have e2 : zsum (fun q => (if q < i then 0 else b (q - i)) * x ^ q) (N + N') = zsum (fun j => (if i + j < i then 0 else b (i + j - i)) * x ^ (i + j)) (N + N' - i) := by
      have := zsum_more (fun q => (if q < i then 0 else b (q - i)) * x ^ q) i (N + N' - i)
      rw [Nat.add_sub_cancel' (by omega)] at this
      rw [this, zsum_zero i fun q hq => by rw [if_pos hq, Int.zero_mul], Int.zero_add]
    rw [e2, zsum_congr (f := fun j => (if i + j < i then 0 else b (i + j - i)) * x ^ (i + j)) (g := fun j => x ^ i * (b j * x ^ j)) _ fun j _ => by
      rw [if_neg (by omega), Nat.add_sub_cancel_left, pow_add', Int.mul_left_comm]]
    exact (zsum_ext0 (by omega) fun j hj => by rw [h1' j hj, Int.zero_mul, Int.mul_zero]).symm
theorem vss_cg {t : Nat} {f cs : Nat → Int} {v : Int} : ∀ n, Cg t (vss t f cs v n) (v + zsum (fun k => cs k * f k) n)
  | 0 => Cg.of_eq (by show v = v + 0; omega)
  | n + 1 => (bal_cg t _).trans (((vss_cg n).add (Cg.refl t (cs n * f n))).trans (Cg.of_eq (by show v + zsum (fun k => cs k * f k) n + cs n * f n = v + (zsum (fun k => cs k * f k) n + cs n * f n); omega)))
theorem valD_ev {t n : Nat} {x : Int} {s : Nat → PS} (h : PlnOk t n s) (j : Nat) (hj : j ≤ n) : evR t (plD s j) x (valD t x s j) := by
  induction j using Nat.strongRecOn with
  | _ j ih =>
    rcases j with _ | j
    · exact evR_dlt1 t x
    · have hs := h j (by omega)
      obtain ⟨r1, r2⟩ := hs.regs
      rw [plD_succ hs, valD_succ hs]
      unfold plS vst
      have es : evR t (fun q => zsum (fun k => (s j).cs k * plD s k q) (s j).n) x (zsum (fun k => (s j).cs k * valD t x s k) (s j).n) := evR_sum _ fun k hk => ih k (by omega) (by omega)
      by_cases hm : (s j).mul = true
      · obtain ⟨ra, rb⟩ := r1 hm
        have e1 : (fun q => (if (s j).mul = true then cnv (plD s (s j).a.toNat) (plD s (s j).b.toNat) q else if q = 0 then (s j).first else 0) + zsum (fun k => (s j).cs k * plD s k q) (s j).n) = fun q => cnv (plD s (s j).a.toNat) (plD s (s j).b.toNat) q + zsum (fun k => (s j).cs k * plD s k q) (s j).n := funext fun q => by rw [if_pos hm]
        rw [e1, if_pos hm]
        exact (((evR_cnv (ih _ (by omega) (by omega)) (ih _ (by omega) (by omega))).cg (bal_cg t _)).add es).cg (vss_cg _)
      · have e1 : (fun q => (if (s j).mul = true then cnv (plD s (s j).a.toNat) (plD s (s j).b.toNat) q else if q = 0 then (s j).first else 0) + zsum (fun k => (s j).cs k * plD s k q) (s j).n) = fun q => (if q = 0 then (s j).first else 0) + zsum (fun k => (s j).cs k * plD s k q) (s j).n := funext fun q => by rw [if_neg hm]
        rw [e1, if_neg hm]
        exact ((evR_const t _ x).add es).cg (vss_cg _)
end Go.Proofs.Ytmidpholmgmdpaa
