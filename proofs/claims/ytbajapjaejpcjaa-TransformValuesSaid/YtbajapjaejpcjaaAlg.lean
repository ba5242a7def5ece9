/- Plain algebra of polynomials as functions: products commute, associate and distribute modulo m. No program in sight. -/
import Derived.Test.YtbajapjaejpcjaaPlain
namespace Go.Proofs.Ytbajapjaejpcjaa

theorem sumN_add (f g : Nat → Nat) : ∀ n, sumN (fun i => f i + g i) n = sumN f n + sumN g n
  | 0 => rfl
  | n + 1 => by rw [sumN, sumN, sumN, sumN_add f g n]; omega
theorem sumN_mul_left (c : Nat) (f : Nat → Nat) : ∀ n, sumN (fun i => c * f i) n = c * sumN f n
  | 0 => rfl
  | n + 1 => by rw [sumN, sumN, sumN_mul_left c f n, Nat.mul_add]
theorem sumN_mul_right (c : Nat) (f : Nat → Nat) : ∀ n, sumN (fun i => f i * c) n = sumN f n * c
  | 0 => by simp [sumN]
  | n + 1 => by rw [sumN, sumN, sumN_mul_right c f n, Nat.add_mul]
theorem sumN_head (f : Nat → Nat) : ∀ n, sumN f (n + 1) = f 0 + sumN (fun i => f (i + 1)) n
  | 0 => by simp [sumN]
  | n + 1 => by rw [sumN, sumN_head f n, sumN, Nat.add_assoc]
theorem sumN_rev (f : Nat → Nat) : ∀ n, sumN (fun i => f (n - i)) (n + 1) = sumN f (n + 1)
  | 0 => rfl
  | n + 1 => by
    have e : sumN (fun i => f (n + 1 - (i + 1))) (n + 1) = sumN (fun i => f (n - i)) (n + 1) := sumN_congr _ fun i _ => by rw [Nat.add_sub_add_right]
    rw [sumN_head, Nat.sub_zero, e, sumN_rev f n]
    exact Nat.add_comm _ _
theorem sumN_mod {m : Nat} {f g : Nat → Nat} : ∀ n, (∀ i, i < n → f i % m = g i % m) → sumN f n % m = sumN g n % m
  | 0, _ => rfl
  | n + 1, h => by rw [sumN, sumN, Nat.add_mod, sumN_mod n (fun i hi => h i (by omega)), h n (by omega), ← Nat.add_mod]
/-- two sums may change places -/
theorem sumN_swap (f : Nat → Nat → Nat) (m : Nat) : ∀ n, sumN (fun i => sumN (f i) m) n = sumN (fun j => sumN (fun i => f i j) n) m
  | 0 => by
    have : ∀ m, sumN (fun _ => sumN (fun i => f i 0) 0) m = 0 := fun m => sumN_zero m fun _ _ => rfl
    exact (sumN_zero m fun _ _ => rfl).symm
  | n + 1 => by
    rw [sumN, sumN_swap f m n, ← sumN_add]
    rfl

/-- the product's coefficient k -/
def conv (a b : Nat → Nat) (k : Nat) : Nat := sumN (fun t => a t * b (k - t)) (k + 1)

theorem mulF_conv (m : Nat) (a b : Nat → Nat) (k : Nat) : mulF m a b k = conv a b k % m := rfl

theorem conv_comm (a b : Nat → Nat) (k : Nat) : conv a b k = conv b a k := by
  unfold conv
  rw [← sumN_rev]
  exact sumN_congr _ fun i hi => by rw [Nat.mul_comm, show k - (k - i) = i from by omega]

/-- the terms of a triple product, by the first two places -/
theorem conv_conv (a b c : Nat → Nat) (k : Nat) : conv (conv a b) c k = sumN (fun i => sumN (fun j => if i + j ≤ k then a i * b j * c (k - (i + j)) else 0) (k + 1)) (k + 1) := by
  have e1 : conv (conv a b) c k = sumN (fun s => sumN (fun i => if i ≤ s then a i * b (s - i) * c (k - s) else 0) (k + 1)) (k + 1) := by
    unfold conv
    refine sumN_congr _ fun s hs => ?_
    rw [← sumN_mul_right]
    obtain ⟨d, hd⟩ := Nat.exists_eq_add_of_le (show s + 1 ≤ k + 1 by omega)
    rw [hd]
    rw [sumN_more d (fun i h1 _ => if_neg (by omega))]
    exact sumN_congr _ fun i hi => by rw [if_pos (by omega)]
  rw [e1, sumN_swap]
  refine sumN_congr _ fun i hi => ?_
  -- for this i: s = i + j
  have e2 : ∀ n, sumN (fun s => if i ≤ s then a i * b (s - i) * c (k - s) else 0) (i + n) = sumN (fun j => a i * b j * c (k - (i + j))) n := by
    intro n
    induction n with
    | zero => exact sumN_zero _ fun s hs => if_neg (by omega)
    | succ n ih =>
      rw [← Nat.add_assoc, sumN, ih, sumN, if_pos (by omega), Nat.add_sub_cancel_left]
  obtain ⟨d, hd⟩ := Nat.exists_eq_add_of_le (show i ≤ k + 1 by omega)
  rw [hd, e2 d]
  have e3 : i + d = d + i := Nat.add_comm _ _
  rw [e3, sumN_more i (fun j h1 _ => if_neg (by omega))]
  exact sumN_congr _ fun j hj => by rw [if_pos (by omega)]

theorem conv_assoc (a b c : Nat → Nat) (k : Nat) : conv (conv a b) c k = conv a (conv b c) k := by
  rw [conv_comm a (conv b c), conv_conv, conv_conv]
  -- both are the sum over all i + j + l = k
  have key : ∀ (f g h : Nat → Nat), sumN (fun i => sumN (fun j => if i + j ≤ k then f i * g j * h (k - (i + j)) else 0) (k + 1)) (k + 1) = sumN (fun j => sumN (fun l => if j + l ≤ k then g j * h l * f (k - (j + l)) else 0) (k + 1)) (k + 1) := by
    intro f g h
    rw [sumN_swap]
    refine sumN_congr _ fun j hj => ?_
    -- for this j turn i into l = k - j - i
    have e : ∀ (F : Nat → Nat), (∀ i, k - j < i → F i = 0) → sumN F (k + 1) = sumN F (k - j + 1) := by
      intro F hF
      have : k + 1 = (k - j + 1) + j := by omega
      rw [this]
      exact sumN_more j fun i h1 _ => hF i (by omega)
    rw [e _ (fun i hi => if_neg (by omega)), e _ (fun i hi => if_neg (by omega)), ← sumN_rev]
    refine sumN_congr _ fun l hl => ?_
    rw [if_pos (by omega), if_pos (by omega), show k - (k - j - l + j) = l from by omega, show k - j - l = k - (j + l) from by omega]
    rw [Nat.mul_comm (f _) (g j), Nat.mul_assoc, Nat.mul_assoc, Nat.mul_comm (f _) (h l)]
  exact key a b c

theorem conv_add (a b c : Nat → Nat) (k : Nat) : conv (fun j => a j + b j) c k = conv a c k + conv b c k := by
  unfold conv
  rw [← sumN_add]
  exact sumN_congr _ fun i _ => Nat.add_mul _ _ _

theorem conv_mod {m : Nat} {a a' b b' : Nat → Nat} (ha : ∀ j, a j % m = a' j % m) (hb : ∀ j, b j % m = b' j % m) (k : Nat) : conv a b k % m = conv a' b' k % m :=
  sumN_mod _ fun i _ => by rw [Nat.mul_mod, ha, hb, ← Nat.mul_mod]

theorem mulF_comm (m : Nat) (a b : Nat → Nat) : mulF m a b = mulF m b a := funext fun k => by rw [mulF_conv, mulF_conv, conv_comm]
theorem mulF_assoc (m : Nat) (a b c : Nat → Nat) : mulF m (mulF m a b) c = mulF m a (mulF m b c) := funext fun k => by
  rw [mulF_conv, mulF_conv, conv_mod (a' := conv a b) (b' := c) (fun j => by rw [mulF_conv, Nat.mod_mod]) (fun _ => rfl), conv_assoc,
    conv_mod (a := a) (b := mulF m b c) (a' := a) (b' := conv b c) (fun _ => rfl) (fun j => by rw [mulF_conv, Nat.mod_mod])]
theorem mulF_add (m : Nat) (a b c : Nat → Nat) : mulF m (addF m a b) c = addF m (mulF m a c) (mulF m b c) := funext fun k => by
  unfold addF
  rw [mulF_conv, conv_mod (a' := fun j => a j + b j) (b' := c) (fun j => by rw [Nat.mod_mod]) (fun _ => rfl), conv_add, mulF_conv, mulF_conv, Nat.add_mod]
theorem subF_addF {m : Nat} {a b : Nat → Nat} (ha : ∀ j, a j < m) (hb : ∀ j, b j < m) : subF m (addF m a b) b = a := funext fun k => by
  unfold subF addF
  have h1 := ha k
  have h2 := hb k
  rcases Nat.lt_or_ge (a k + b k) m with h | h
  · rw [Nat.mod_eq_of_lt h, show a k + b k + m - b k = a k + m from by omega, Nat.add_mod_right, Nat.mod_eq_of_lt h1]
  · rw [Nat.mod_eq_sub_mod h, Nat.mod_eq_of_lt (show a k + b k - m < m by omega), show a k + b k - m + m - b k = a k from by omega, Nat.mod_eq_of_lt h1]
end Go.Proofs.Ytbajapjaejpcjaa
