/- Plain algebra: wrapping modulo x^N + 1 is a homomorphism. No program in sight. -/
import Derived.Test.YtoifjkandmnakaaAlgVal
import Derived.Test.YtoifjkandmnakaaRWrap
namespace Go.Proofs.Ytoifjkandmnakaa

/-- the sum of f i for i below n, over the integers -/
def isum (f : Nat → Int) : Nat → Int
  | 0 => 0
  | n + 1 => isum f n + f n

theorem isum_congr {f g : Nat → Int} : ∀ n, (∀ i, i < n → f i = g i) → isum f n = isum g n
  | 0, _ => rfl
  | n + 1, h => by rw [isum, isum, isum_congr n (fun i hi => h i (by omega)), h n (by omega)]
theorem isum_zero {f : Nat → Int} : ∀ n, (∀ i, i < n → f i = 0) → isum f n = 0
  | 0, _ => rfl
  | n + 1, h => by rw [isum, isum_zero n (fun i hi => h i (by omega)), h n (by omega)]; rfl
theorem isum_more {f : Nat → Int} {n : Nat} : ∀ k, (∀ i, n ≤ i → i < n + k → f i = 0) → isum f (n + k) = isum f n
  | 0, _ => rfl
  | k + 1, h => by rw [← Nat.add_assoc, isum, isum_more k (fun i h1 h2 => h i h1 (by omega)), h (n + k) (by omega) (by omega), Int.add_zero]
theorem isum_add (f g : Nat → Int) : ∀ n, isum (fun i => f i + g i) n = isum f n + isum g n
  | 0 => rfl
  | n + 1 => by rw [isum, isum, isum, isum_add f g n]; omega
theorem isum_mul_left (c : Int) (f : Nat → Int) : ∀ n, isum (fun i => c * f i) n = c * isum f n
  | 0 => by simp [isum]
  | n + 1 => by rw [isum, isum, isum_mul_left c f n, Int.mul_add]
theorem isum_mul_right (c : Int) (f : Nat → Int) : ∀ n, isum (fun i => f i * c) n = isum f n * c
  | 0 => by simp [isum]
  | n + 1 => by rw [isum, isum, isum_mul_right c f n, Int.add_mul]
theorem isum_swap (f : Nat → Nat → Int) (m : Nat) : ∀ n, isum (fun i => isum (f i) m) n = isum (fun j => isum (fun i => f i j) n) m
  | 0 => (isum_zero m fun _ _ => rfl).symm
  | n + 1 => by
    rw [isum, isum_swap f m n, ← isum_add]
    rfl
theorem isum_mod {m : Int} {f g : Nat → Int} : ∀ n, (∀ i, i < n → f i % m = g i % m) → isum f n % m = isum g n % m
  | 0, _ => rfl
  | n + 1, h => by rw [isum, isum, Int.add_emod, isum_mod n (fun i hi => h i (by omega)), h n (by omega), ← Int.add_emod]
theorem isum_cast (f : Nat → Nat) : ∀ n, ((sumN f n : Nat) : Int) = isum (fun i => ((f i : Nat) : Int)) n
  | 0 => rfl
  | n + 1 => by rw [sumN, isum, Int.natCast_add, isum_cast f n]
/-- a sum of which one place alone is not 0 -/
theorem isum_one {f : Nat → Int} {j : Nat} : ∀ n, j < n → (∀ i, i ≠ j → f i = 0) → isum f n = f j
  | 0, h, _ => absurd h (Nat.not_lt_zero j)
  | n + 1, h, hz => by
    rw [isum]
    rcases Nat.lt_or_ge j n with h1 | h1
    · rw [isum_one n h1 hz, hz n (by omega), Int.add_zero]
    · obtain rfl : j = n := by omega
      rw [isum_zero j fun i hi => hz i (by omega), Int.zero_add]

theorem emod_mul_congr {m a a' b b' : Int} (h1 : a % m = a' % m) (h2 : b % m = b' % m) : a * b % m = a' * b' % m := by rw [Int.mul_emod, h1, h2, ← Int.mul_emod]

/-- phi turns its sign every N places -/
def Anti (N : Nat) (φ : Nat → Int) : Prop := ∀ t, φ (t + N) = -φ t
theorem Anti.shift {N : Nat} {φ : Nat → Int} (h : Anti N φ) (s : Nat) : Anti N (fun t => φ (s + t)) := fun t => by
  show φ (s + (t + N)) = -φ (s + t)
  rw [← Nat.add_assoc]
  exact h _
theorem Anti.at_ {N : Nat} {φ : Nat → Int} (h : Anti N φ) (r : Nat) : ∀ q, φ (r + q * N) = if q % 2 = 1 then -φ r else φ r
  | 0 => by rw [Nat.zero_mul, Nat.add_zero, if_neg (by omega)]
  | q + 1 => by
    rw [Nat.add_mul, Nat.one_mul, ← Nat.add_assoc, h, h.at_ r q]
    by_cases hq : q % 2 = 1
    · rw [if_pos hq, if_neg (by omega), Int.neg_neg]
    · rw [if_neg hq, if_pos (by omega)]

theorem wTerm_sgn {m N t : Nat} {f : Nat → Nat} {φ : Nat → Int} (hf : f t ≤ m) (h : Anti N φ) : ((wTerm m N f t : Nat) : Int) * φ (t % N) % (m : Int) = ((f t : Nat) : Int) * φ t % (m : Int) := by
  have e : t % N + t / N * N = t := by rw [Nat.add_comm, Nat.mul_comm]; exact Nat.div_add_mod t N
  have hφ := h.at_ (t % N) (t / N)
  rw [e] at hφ
  rw [hφ]
  unfold wTerm
  split
  · rw [Int.ofNat_sub hf, Int.sub_mul, Int.mul_neg, Int.sub_eq_add_neg, Int.add_comm, Int.mul_comm (m : Int), Int.add_mul_emod_self_right]
  · rfl

/-- a pairing with such a phi sees the wrapped polynomial alone -/
theorem wrap_pair {m N n : Nat} {f : Nat → Nat} {φ : Nat → Int} (hN : 0 < N) (hf : ∀ t, f t ≤ m) (h : Anti N φ) : isum (fun t => ((f t : Nat) : Int) * φ t) n % (m : Int) = isum (fun j => ((wrapF m n f N j : Nat) : Int) * φ j) N % (m : Int) := by
  have e1 : isum (fun j => ((wrapF m n f N j : Nat) : Int) * φ j) N % (m : Int) = isum (fun j => isum (fun t => (if t % N = j then ((wTerm m N f t : Nat) : Int) else 0) * φ j) n) N % (m : Int) := by
    refine isum_mod N fun j hj => ?_
    rw [isum_mul_right]
    refine emod_mul_congr ?_ rfl
    unfold wrapF
    rw [if_pos hj, Int.natCast_emod, Int.emod_emod]
    unfold wS
    rw [isum_cast]
    congr 1
    exact isum_congr n fun t _ => by split <;> rfl
  rw [e1, isum_swap]
  refine isum_mod n fun t _ => ?_
  rw [isum_one (j := t % N) N (Nat.mod_lt t hN) (fun i hi => by rw [if_neg (fun h => hi h.symm), Int.zero_mul]), if_pos rfl]
  exact (wTerm_sgn (hf t) h).symm

/-- a pairing of a product -/
theorem conv_pair {a b : Nat → Nat} {n nb M : Nat} {φ : Nat → Int} (ha : ∀ j, n ≤ j → a j = 0) (hb : ∀ j, nb ≤ j → b j = 0) (h : n + nb ≤ M) :
    isum (fun k => ((conv a b k : Nat) : Int) * φ k) M = isum (fun s => ((a s : Nat) : Int) * isum (fun t => ((b t : Nat) : Int) * φ (s + t)) nb) n := by
  have e1 : isum (fun k => ((conv a b k : Nat) : Int) * φ k) M = isum (fun k => isum (fun s => if s ≤ k then ((a s : Nat) : Int) * ((b (k - s) : Nat) : Int) * φ k else 0) M) M := by
    refine isum_congr M fun k hk => ?_
    unfold conv
    rw [isum_cast, ← isum_mul_right]
    obtain ⟨d, hd⟩ := Nat.exists_eq_add_of_le (show k + 1 ≤ M by omega)
    rw [hd, isum_more d fun i h1 _ => if_neg (by omega)]
    exact isum_congr _ fun i hi => by rw [if_pos (by omega), Int.natCast_mul]
  rw [e1, isum_swap]
  have e2 : ∀ s, s < M → isum (fun k => if s ≤ k then ((a s : Nat) : Int) * ((b (k - s) : Nat) : Int) * φ k else 0) M = ((a s : Nat) : Int) * isum (fun t => ((b t : Nat) : Int) * φ (s + t)) nb := by
    intro s hs
    have e3 : ∀ q, isum (fun k => if s ≤ k then ((a s : Nat) : Int) * ((b (k - s) : Nat) : Int) * φ k else 0) (s + q) = ((a s : Nat) : Int) * isum (fun t => ((b t : Nat) : Int) * φ (s + t)) q := by
      intro q
      induction q with
      | zero =>
        rw [isum_zero _ fun k hk => if_neg (by omega)]
        show (0 : Int) = _ * 0
        rw [Int.mul_zero]
      | succ q ih => rw [← Nat.add_assoc, isum, ih, isum, if_pos (by omega), Nat.add_sub_cancel_left, Int.mul_add, Int.mul_assoc]
    obtain ⟨q, hq⟩ := Nat.exists_eq_add_of_le (Nat.le_of_lt hs)
    rw [hq, e3 q]
    rcases Nat.lt_or_ge s n with h1 | h1
    · obtain ⟨d, hd⟩ := Nat.exists_eq_add_of_le (show nb ≤ q by omega)
      rw [hd, isum_more d fun i h2 _ => by rw [hb i h2, Int.natCast_zero, Int.zero_mul]]
    · rw [ha s h1, Int.natCast_zero, Int.zero_mul, Int.zero_mul]
  rw [isum_congr M e2]
  obtain ⟨d, hd⟩ := Nat.exists_eq_add_of_le (show n ≤ M by omega)
  rw [hd, isum_more d fun i h2 _ => by rw [ha i h2, Int.natCast_zero, Int.zero_mul]]

/-- the pairing that reads off place j -/
def phi (N j : Nat) : Nat → Int := fun t => if t % N = j then (if t / N % 2 = 1 then -1 else 1) else 0
theorem phi_anti {N j : Nat} (hN : 0 < N) : Anti N (phi N j) := fun t => by
  unfold phi
  rw [Nat.add_mod_right, Nat.add_div_right _ hN]
  by_cases h : t % N = j
  · rw [if_pos h, if_pos h]
    by_cases h2 : t / N % 2 = 1
    · rw [if_pos h2, if_neg (by omega)]; rfl
    · rw [if_neg h2, if_pos (by omega)]
  · rw [if_neg h, if_neg h]; rfl
theorem phi_low {N j t : Nat} (ht : t < N) : phi N j t = if t = j then 1 else 0 := by
  unfold phi
  rw [Nat.mod_eq_of_lt ht, Nat.div_eq_of_lt ht]
  by_cases h : t = j
  · rw [if_pos h, if_pos h, if_neg (by omega)]
  · rw [if_neg h, if_neg h]

/-- a wrapped element is a pairing -/
theorem wrap_phi {m N n j : Nat} {f : Nat → Nat} (hj : j < N) (hm : 0 < m) (hf : ∀ t, f t ≤ m) : ((wrapF m n f N j : Nat) : Int) = isum (fun t => ((f t : Nat) : Int) * phi N j t) n % (m : Int) := by
  rw [wrap_pair (by omega) hf (phi_anti (by omega)), isum_one (j := j) N hj (fun i hi => ?_), phi_low hj, if_pos rfl, Int.mul_one]
  · have : wrapF m n f N j < m := by unfold wrapF; rw [if_pos hj]; exact Nat.mod_lt _ hm
    rw [Int.emod_eq_of_lt (Int.natCast_nonneg _) (by omega)]
  · rcases Nat.lt_or_ge i N with h | h
    · rw [phi_low h, if_neg hi, Int.mul_zero]
    · unfold wrapF
      rw [if_neg (by omega), Int.natCast_zero, Int.zero_mul]

theorem wrapF_lt {m n N : Nat} {f : Nat → Nat} (hm : 0 < m) (j : Nat) : wrapF m n f N j < m := by
  unfold wrapF
  split
  · exact Nat.mod_lt _ hm
  · exact hm
theorem wrapF_out {m n N j : Nat} {f : Nat → Nat} (h : N ≤ j) : wrapF m n f N j = 0 := by unfold wrapF; rw [if_neg (by omega)]

/-- a pairing of a product modulo m, of whatever length -/
theorem mulF_pair {m n nb np : Nat} {a b : Nat → Nat} {φ : Nat → Int} (ha : ∀ j, n ≤ j → a j = 0) (hb : ∀ j, nb ≤ j → b j = 0) (hp : ∀ j, np ≤ j → mulF m a b j = 0) :
    isum (fun t => ((mulF m a b t : Nat) : Int) * φ t) np % (m : Int) = isum (fun s => ((a s : Nat) : Int) * isum (fun t => ((b t : Nat) : Int) * φ (s + t)) nb) n % (m : Int) := by
  rw [← conv_pair (M := np + (n + nb)) ha hb (by omega), ← isum_more (n + nb) (fun i h1 _ => by rw [hp i h1, Int.natCast_zero, Int.zero_mul])]
  refine isum_mod _ fun i _ => emod_mul_congr ?_ rfl
  rw [mulF_conv, Int.natCast_emod, Int.emod_emod]

/-- wrapping a product is wrapping the product of what is wrapped -/
theorem wrap_mul {m n nb np ns N : Nat} {a b : Nat → Nat} (hN : 0 < N) (hm : 0 < m) (haa : ∀ j, a j < m) (hbb : ∀ j, b j < m) (ha : ∀ j, n ≤ j → a j = 0) (hb : ∀ j, nb ≤ j → b j = 0)
    (hp : ∀ j, np ≤ j → mulF m a b j = 0) (hs : ∀ j, ns ≤ j → mulF m (wrapF m n a N) (wrapF m nb b N) j = 0) :
    wrapF m ns (mulF m (wrapF m n a N) (wrapF m nb b N)) N = wrapF m np (mulF m a b) N := by
  funext j
  rcases Nat.lt_or_ge j N with hj | hj
  · apply Int.ofNat_inj.1
    have hlt : ∀ (x y : Nat → Nat) t, mulF m x y t ≤ m := fun x y t => Nat.le_of_lt (Nat.mod_lt _ hm)
    rw [wrap_phi hj hm (hlt _ _), wrap_phi hj hm (hlt _ _), mulF_pair ha hb hp, mulF_pair (fun j hj => wrapF_out hj) (fun j hj => wrapF_out hj) hs]
    have hanti := phi_anti (j := j) hN
    -- the inner sum, then the outer one
    have e1 : isum (fun s => ((a s : Nat) : Int) * isum (fun t => ((b t : Nat) : Int) * phi N j (s + t)) nb) n % (m : Int) = isum (fun s => ((a s : Nat) : Int) * isum (fun t => ((wrapF m nb b N t : Nat) : Int) * phi N j (s + t)) N) n % (m : Int) :=
      isum_mod n fun s _ => emod_mul_congr rfl (wrap_pair hN (fun t => Nat.le_of_lt (hbb t)) (hanti.shift s))
    have hanti2 : Anti N (fun s => isum (fun t => ((wrapF m nb b N t : Nat) : Int) * phi N j (s + t)) N) := fun s => by
      show isum (fun t => ((wrapF m nb b N t : Nat) : Int) * phi N j (s + N + t)) N = -isum (fun t => ((wrapF m nb b N t : Nat) : Int) * phi N j (s + t)) N
      rw [← Int.neg_one_mul, ← isum_mul_left]
      refine isum_congr N fun t _ => ?_
      rw [show s + N + t = s + t + N from by omega, hanti, Int.mul_neg, Int.neg_one_mul]
    rw [e1, wrap_pair hN (fun t => Nat.le_of_lt (haa t)) hanti2]
  · rw [wrapF_out hj, wrapF_out hj]
end Go.Proofs.Ytoifjkandmnakaa
