/- Plain algebra of values: the value of a sum, of a product, and of the rest of a division. No program in sight. -/
import Derived.Test.YtkklacgoeopekaaAlg
import Derived.Test.YtkklacgoeopekaaLit
import Derived.Test.YtkklacgoeopekaaEval
namespace Go.Proofs.Ytkklacgoeopekaa

theorem val_more {m n N : Nat} {a : Nat → Nat} {x : Nat} (hz : ∀ j, n ≤ j → a j = 0) (h : n ≤ N) : valF m N a x = valF m n a x := by
  unfold valF
  obtain ⟨d, rfl⟩ := Nat.exists_eq_add_of_le h
  rw [sumN_more d fun i h1 _ => by rw [hz i h1, Nat.zero_mul]]

theorem val_add {m N : Nat} {a b : Nat → Nat} {x : Nat} : valF m N (addF m a b) x = (valF m N a x + valF m N b x) % m := by
  unfold valF
  rw [← Nat.add_mod, ← sumN_add]
  refine sumN_mod N fun i _ => ?_
  unfold addF
  rw [Nat.mod_mul_mod, Nat.add_mul]

theorem sum_conv {a b : Nat → Nat} {n nb M : Nat} (ha : ∀ j, n ≤ j → a j = 0) (hb : ∀ j, nb ≤ j → b j = 0) (h : n + nb ≤ M) : sumN (conv a b) M = sumN a n * sumN b nb := by
  have e1 : sumN (conv a b) M = sumN (fun k => sumN (fun t => if t ≤ k then a t * b (k - t) else 0) M) M := by
    refine sumN_congr M fun k hk => ?_
    unfold conv
    obtain ⟨d, hd⟩ := Nat.exists_eq_add_of_le (show k + 1 ≤ M by omega)
    rw [hd, sumN_more d fun i h1 _ => if_neg (by omega)]
    exact sumN_congr _ fun i hi => by rw [if_pos (by omega)]
  rw [e1, sumN_swap]
  have e2 : ∀ t, t < M → sumN (fun k => if t ≤ k then a t * b (k - t) else 0) M = a t * sumN b nb := by
    intro t ht
    have e3 : ∀ q, sumN (fun k => if t ≤ k then a t * b (k - t) else 0) (t + q) = a t * sumN b q := by
      intro q
      induction q with
      | zero => rw [sumN_zero _ fun k hk => if_neg (by omega)]; rfl
      | succ q ih => rw [← Nat.add_assoc, sumN, ih, sumN, if_pos (by omega), Nat.add_sub_cancel_left, Nat.mul_add]
    obtain ⟨q, hq⟩ := Nat.exists_eq_add_of_le (Nat.le_of_lt ht)
    rw [hq, e3 q]
    rcases Nat.lt_or_ge t n with h1 | h1
    · obtain ⟨d, hd⟩ := Nat.exists_eq_add_of_le (show nb ≤ q by omega)
      rw [hd, sumN_more d fun i h2 _ => hb i h2]
    · rw [ha t h1, Nat.zero_mul, Nat.zero_mul]
  rw [sumN_congr M e2, sumN_mul_right]
  obtain ⟨d, hd⟩ := Nat.exists_eq_add_of_le (show n ≤ M by omega)
  rw [hd, sumN_more d fun i h2 _ => ha i h2]

theorem val_mul {m n nb M : Nat} {a b : Nat → Nat} {x : Nat} (ha : ∀ j, n ≤ j → a j = 0) (hb : ∀ j, nb ≤ j → b j = 0) (h : n + nb ≤ M) : valF m M (mulF m a b) x = valF m n a x * valF m nb b x % m := by
  unfold valF
  rw [← Nat.mul_mod, ← sum_conv (M := M) (fun j hj => by rw [ha j hj, Nat.zero_mul]) (fun j hj => by rw [hb j hj, Nat.zero_mul]) h]
  refine sumN_mod M fun k _ => ?_
  rw [mulF_conv, Nat.mod_mul_mod]
  congr 1
  unfold conv
  rw [← sumN_mul_right]
  refine sumN_congr _ fun t ht => ?_
  have e : x ^ k = x ^ t * x ^ (k - t) := by rw [← Nat.pow_add]; congr 1; omega
  rw [e, Nat.mul_assoc, Nat.mul_assoc, Nat.mul_left_comm (b _)]

/-- at a root of b a step of the division leaves the value -/
theorem val_dStep {m nb iv i N x : Nat} {b r : Nat → Nat} (hb : ∀ j, nb ≤ j → b j = 0) (hroot : valF m nb b x = 0) (hN : i + nb ≤ N) : valF m N (dStep m nb b iv i r) x = valF m N r x := by
  have e1 : valF m N (dStep m nb b iv i r) x = (sumN (fun j => r j * x ^ j) N + sumN (fun j => if i ≤ j then (m - dC m nb iv i r) * b (j - i) * x ^ j else 0) N) % m := by
    unfold valF
    rw [← sumN_add]
    refine sumN_mod N fun j _ => ?_
    unfold dStep
    split
    · rw [Nat.mod_mul_mod, Nat.add_mul]
    · rw [Nat.add_zero]
  have e2 : sumN (fun j => if i ≤ j then (m - dC m nb iv i r) * b (j - i) * x ^ j else 0) N = (m - dC m nb iv i r) * x ^ i * sumN (fun j => b j * x ^ j) nb := by
    have e3 : ∀ q, sumN (fun j => if i ≤ j then (m - dC m nb iv i r) * b (j - i) * x ^ j else 0) (i + q) = (m - dC m nb iv i r) * x ^ i * sumN (fun j => b j * x ^ j) q := by
      intro q
      induction q with
      | zero => rw [sumN_zero _ fun k hk => if_neg (by omega)]; rfl
      | succ q ih =>
        rw [← Nat.add_assoc, sumN, ih, sumN, if_pos (by omega), Nat.add_sub_cancel_left, Nat.mul_add, Nat.pow_add]
        congr 1
        rw [Nat.mul_assoc, Nat.mul_assoc]
        congr 1
        rw [Nat.mul_left_comm]
    obtain ⟨q, hq⟩ := Nat.exists_eq_add_of_le (show i ≤ N by omega)
    rw [hq, e3 q]
    obtain ⟨d, hd⟩ := Nat.exists_eq_add_of_le (show nb ≤ q by omega)
    rw [hd, sumN_more d fun j h2 _ => by rw [hb j h2, Nat.zero_mul]]
  rw [e1, e2, Nat.add_mod, Nat.mul_mod _ (sumN _ nb)]
  have e4 : sumN (fun j => b j * x ^ j) nb % m = 0 := hroot
  rw [e4, Nat.mul_zero, Nat.zero_mod, Nat.add_zero, Nat.mod_mod]
  rfl

theorem val_dR {m nb iv N x : Nat} {b : Nat → Nat} (hb : ∀ j, nb ≤ j → b j = 0) (hroot : valF m nb b x = 0) : ∀ i (r : Nat → Nat), i + nb ≤ N + 1 → valF m N (dR m nb b iv i r) x = valF m N r x
  | 0, _, _ => rfl
  | i + 1, r, h => by rw [dR, val_dR hb hroot i _ (by omega), val_dStep hb hroot (by omega)]

theorem val_low {m N x : Nat} {r : Nat → Nat} (hr : ∀ j, r j < m) (h : ∀ j, 1 ≤ j → r j = 0) (hN : 1 ≤ N) : valF m N r x = r 0 := by
  rw [val_more (n := 1) h hN]
  unfold valF
  simp [sumN, Nat.mod_eq_of_lt (hr 0)]
end Go.Proofs.Ytkklacgoeopekaa
