/- Plain: the list of the primes that divide a number, with their exponents; trial division. No program in sight. -/
/- Plain: the primes of a number by its list; the test of one candidate for a root; the least element of an order. No program in sight. -/
import Derived.Test.YtcnkddoipmaddaaMrA
import Derived.Test.YtcnkddoipmaddaaOrd
namespace Go.Proofs.Ytcnkddoipmaddaa
open Mr
set_option linter.unusedVariables false

/-- p^k is the greatest power of p that divides n -/
def Vp (p n k : Nat) : Prop := p ^ k ∣ n ∧ ¬ p ^ (k + 1) ∣ n

theorem Vp.uniq {p n k l : Nat} (h : Vp p n k) (h' : Vp p n l) : k = l := by
  rcases Nat.lt_trichotomy k l with h1 | h1 | h1
  · exact absurd (Nat.dvd_trans (Nat.pow_dvd_pow p (show k + 1 ≤ l by omega)) h'.1) h.2
  · exact h1
  · exact absurd (Nat.dvd_trans (Nat.pow_dvd_pow p (show l + 1 ≤ k by omega)) h.1) h'.2
theorem Vp.zero {p n : Nat} (h : ¬ p ∣ n) : Vp p n 0 := ⟨by rw [Nat.pow_zero]; exact Nat.one_dvd n, by rw [Nat.zero_add, Nat.pow_one]; exact h⟩
theorem Vp.mul {p n k : Nat} (hp : 0 < p) (h : Vp p n k) : Vp p (p * n) (k + 1) := by
  refine ⟨by rw [Nat.pow_succ, Nat.mul_comm]; exact Nat.mul_dvd_mul_left p h.1, fun h2 => h.2 ?_⟩
  rw [Nat.pow_succ, Nat.mul_comm] at h2
  exact Nat.dvd_of_mul_dvd_mul_left hp h2
/-- a power of another prime does not turn it -/
theorem Vp.other {p q n k : Nat} (hp : Pr p) (hq : Pr q) (hne : p ≠ q) (h : Vp p n k) : Vp p (q * n) k := by
  have hc : ∀ j, Nat.gcd (p ^ j) q = 1 := fun j => by
    have h1 : Nat.gcd p q = 1 := hp.coprime fun hd => (hq.2 p hd).elim (fun e => by have := hp.1; omega) hne
    exact Nat.Coprime.pow_left j h1
  exact ⟨Nat.dvd_trans h.1 (Nat.dvd_mul_left n q), fun h2 => h.2 (Nat.Coprime.dvd_of_dvd_mul_left (hc (k + 1)) h2)⟩
theorem Vp.self {p : Nat} (hp : Pr p) : Vp p p 1 := ⟨by rw [Nat.pow_one]; exact Nat.dvd_refl p, fun h => by
  have h1 := Nat.le_of_dvd hp.pos h
  have h2 := hp.1
  have h3 : p * 2 ≤ p * p := Nat.mul_le_mul_left p h2
  rw [show p ^ (1 + 1) = p * p from by rw [Nat.pow_succ, Nat.pow_one]] at h1
  omega⟩

noncomputable def pdB (N p : Nat) : Bool := @decide (Pr p ∧ p ∣ N) (Classical.propDecidable _)
theorem pdB_true {N p : Nat} : pdB N p = true ↔ Pr p ∧ p ∣ N := by unfold pdB; exact @decide_eq_true_iff _ (Classical.propDecidable _)
/-- the primes below d that divide N -/
noncomputable def prms (N d : Nat) : List Nat := (List.range d).filter (pdB N)
theorem prms_succ {N d : Nat} : prms N (d + 1) = prms N d ++ if pdB N d = true then [d] else [] := by
  unfold prms
  rw [List.range_succ, List.filter_append]
  congr 1
  by_cases h : pdB N d = true
  · rw [if_pos h, List.filter_cons_of_pos h, List.filter_nil]
  · rw [if_neg h, List.filter_cons_of_neg h, List.filter_nil]
theorem prms_skip {N : Nat} : ∀ e d, (∀ p, d ≤ p → p < d + e → ¬ (Pr p ∧ p ∣ N)) → prms N (d + e) = prms N d
  | 0, _, _ => rfl
  | e + 1, d, h => by
    rw [← Nat.add_assoc, prms_succ, if_neg (fun h1 => h (d + e) (by omega) (by omega) (pdB_true.1 h1)), List.append_nil]
    exact prms_skip e d fun p h1 h2 => h p h1 (by omega)
theorem prms_mem {N d p : Nat} : p ∈ prms N d ↔ p < d ∧ Pr p ∧ p ∣ N := by
  unfold prms
  rw [List.mem_filter, List.mem_range, pdB_true]

/-- the list of the primes below d that divide N, with their exponents -/
def FacTo (N d : Nat) (l : List (Nat × Nat)) : Prop := l.map (·.1) = prms N d ∧ ∀ x ∈ l, Vp x.1 N x.2

theorem FacTo.uniq {N d : Nat} : ∀ {l l' : List (Nat × Nat)}, FacTo N d l → FacTo N d l' → l = l' := by
  intro l l' h h'
  have h1 : l.map (·.1) = l'.map (·.1) := h.1.trans h'.1.symm
  have key : ∀ (l l' : List (Nat × Nat)), l.map (·.1) = l'.map (·.1) → (∀ x ∈ l, Vp x.1 N x.2) → (∀ x ∈ l', Vp x.1 N x.2) → l = l' := by
    intro l
    induction l with
    | nil => intro l' h _ _; cases l' with
      | nil => rfl
      | cons y l' => cases h
    | cons x l ih =>
      intro l' h g g'
      cases l' with
      | nil => cases h
      | cons y l' =>
        simp only [List.map_cons, List.cons.injEq] at h
        have e1 := g x (List.mem_cons_self ..)
        have e2 := g' y (List.mem_cons_self ..)
        rw [← h.1] at e2
        have e3 : x = y := Prod.ext h.1 (e1.uniq e2)
        rw [e3, ih l' h.2 (fun z hz => g z (List.mem_cons_of_mem _ hz)) (fun z hz => g' z (List.mem_cons_of_mem _ hz))]
  exact key l l' h1 h.2 h'.2

/-- the state of trial division: all primes below d are done, n is what is left of N -/
structure TD (N d n : Nat) (l : List (Nat × Nat)) : Prop where
  fac : FacTo N d l
  dvd : n ∣ N
  low : ∀ p, p < d → Pr p → ¬ p ∣ n
  same : ∀ p k, d ≤ p → Pr p → Vp p n k → Vp p N k

theorem TD.pos {N d n : Nat} {l : List (Nat × Nat)} (h : TD N d n l) (hN : 0 < N) : 0 < n := Nat.pos_of_dvd_of_pos h.dvd hN
theorem TD.start {N : Nat} : TD N 2 N [] where
  fac := by
    refine ⟨?_, fun x hx => absurd hx (by simp)⟩
    have : prms N (0 + 2) = prms N 0 := prms_skip 2 0 fun p _ h2 h3 => by have := h3.1.1; omega
    exact this.symm
  dvd := Nat.dvd_refl N
  low := fun p h1 h2 _ => by have := h2.1; omega
  same := fun p k _ _ h => h
/-- p divides what is left just where it divides N -/
theorem TD.iff {N d n p : Nat} {l : List (Nat × Nat)} (h : TD N d n l) (hN : 0 < N) (hd : d ≤ p) (hp : Pr p) : p ∣ n ↔ p ∣ N := by
  refine ⟨fun h1 => Nat.dvd_trans h1 h.dvd, fun h1 => ?_⟩
  rcases Decidable.em (p ∣ n) with h2 | h2
  · exact h2
  · have h3 := (h.same p 0 hd hp (Vp.zero h2)).2
    rw [Nat.zero_add, Nat.pow_one] at h3
    exact absurd h1 h3
/-- a divisor of what is left is a prime -/
theorem TD.prime {N d n : Nat} {l : List (Nat × Nat)} (h : TD N d n l) (hd : 2 ≤ d) (hn : d ∣ n) : Pr d := by
  obtain ⟨q, hq, hqd⟩ := exists_prime_dvd d hd
  rcases Nat.lt_or_ge q d with h1 | h1
  · exact absurd (Nat.dvd_trans hqd hn) (h.low q h1 hq)
  · have h2 := Nat.le_of_dvd (by omega) hqd
    rw [show d = q from by omega]
    exact hq
/-- d is no divisor of what is left: it is passed over -/
theorem TD.pass {N d n : Nat} {l : List (Nat × Nat)} (h : TD N d n l) (hN : 0 < N) (hn : ¬ d ∣ n) : TD N (d + 1) n l where
  fac := ⟨by rw [prms_succ, if_neg (fun h1 => hn ((h.iff hN (Nat.le_refl d) (pdB_true.1 h1).1).2 (pdB_true.1 h1).2)), List.append_nil]; exact h.fac.1, h.fac.2⟩
  dvd := h.dvd
  low := fun p h1 h2 h3 => by
    rcases Nat.lt_or_ge p d with h4 | h4
    · exact h.low p h4 h2 h3
    · exact hn (by rw [show d = p from by omega]; exact h3)
  same := fun p k h1 h2 h3 => h.same p k (by omega) h2 h3
/-- d is a divisor: it is taken out k times -/
theorem TD.take {N d n n' k : Nat} {l : List (Nat × Nat)} (h : TD N d n l) (hd : 2 ≤ d) (hk : 0 < k) (hn : n = d ^ k * n') (hn' : ¬ d ∣ n') : TD N (d + 1) n' (l ++ [(d, k)]) := by
  have hdn : d ∣ n := by rw [hn]; exact Nat.dvd_trans (by have h0 : d ^ 1 ∣ d ^ k := Nat.pow_dvd_pow d hk; rwa [Nat.pow_one] at h0) (Nat.dvd_mul_right _ n')
  have hp := h.prime hd hdn
  have hv : ∀ k, Vp d (d ^ k * n') k := fun k => by
    induction k with
    | zero => rw [Nat.pow_zero, Nat.one_mul]; exact Vp.zero hn'
    | succ k ih => rw [Nat.pow_succ, Nat.mul_comm (d ^ k), Nat.mul_assoc]; exact ih.mul hp.pos
  have hvN := h.same d k (Nat.le_refl d) hp (by rw [hn]; exact hv k)
  exact {
    fac := by
      refine ⟨?_, fun x hx => ?_⟩
      · rw [prms_succ, if_pos (pdB_true.2 ⟨hp, Nat.dvd_trans hdn h.dvd⟩), List.map_append, h.fac.1]
        rfl
      · rcases List.mem_append.1 hx with h1 | h1
        · exact h.fac.2 x h1
        · rw [List.mem_singleton.1 h1]
          exact hvN
    dvd := Nat.dvd_trans ⟨d ^ k, by rw [hn, Nat.mul_comm]⟩ h.dvd
    low := fun p h1 h2 h3 => by
      rcases Nat.lt_or_ge p d with h4 | h4
      · exact h.low p h4 h2 (by rw [hn]; exact Nat.dvd_trans h3 (Nat.dvd_mul_left n' _))
      · exact hn' (by rw [show d = p from by omega]; exact h3)
    same := fun p j h1 h2 h3 => h.same p j (by omega) h2 (by
      rw [hn]
      have : ∀ k, Vp p (d ^ k * n') j := fun k => by
        induction k with
        | zero => rw [Nat.pow_zero, Nat.one_mul]; exact h3
        | succ k ih => rw [Nat.pow_succ, Nat.mul_comm (d ^ k), Nat.mul_assoc]; exact ih.other h2 hp (by omega)
      exact this k) }
/-- what is left below d * d is a prime -/
theorem TD.rest {N d n : Nat} {l : List (Nat × Nat)} (h : TD N d n l) (hn : 1 < n) (hdd : n < d * d) : Pr n ∧ d ≤ n := by
  obtain ⟨q, hq, hqn⟩ := exists_prime_dvd n hn
  have hqd : d ≤ q := Nat.le_of_not_lt fun h1 => h.low q h1 hq hqn
  obtain ⟨c, hc⟩ := hqn
  have hc1 : c = 1 := by
    rcases Nat.lt_or_ge 1 c with h1 | h1
    · obtain ⟨r, hr, hrc⟩ := exists_prime_dvd c h1
      have hrd : d ≤ r := Nat.le_of_not_lt fun h2 => h.low r h2 hr (by rw [hc]; exact Nat.dvd_trans hrc (Nat.dvd_mul_left c q))
      have h3 := Nat.le_of_dvd (by omega) hrc
      have h4 : d * d ≤ q * c := Nat.mul_le_mul hqd (by omega)
      omega
    · rcases Nat.eq_zero_or_pos c with h2 | h2
      · rw [h2, Nat.mul_zero] at hc; omega
      · omega
  rw [hc1, Nat.mul_one] at hc
  rw [hc]
  exact ⟨hq, hqd⟩
theorem TD.up {N d e n : Nat} {l : List (Nat × Nat)} (h : TD N d n l) (hN : 0 < N) (hde : d ≤ e) (hp : ∀ p, d ≤ p → p < e → ¬ (Pr p ∧ p ∣ n)) : TD N e n l := by
  obtain ⟨c, rfl⟩ := Nat.exists_eq_add_of_le hde
  induction c with
  | zero => exact h
  | succ c ih =>
    have h1 := ih (by omega) fun p h1 h2 => hp p h1 (by omega)
    rw [← Nat.add_assoc]
    exact {
      fac := ⟨by rw [prms_succ, if_neg (fun h2 => hp (d + c) (by omega) (by omega) ⟨(pdB_true.1 h2).1, (h1.iff hN (Nat.le_refl _) (pdB_true.1 h2).1).2 (pdB_true.1 h2).2⟩), List.append_nil]; exact h1.fac.1, h1.fac.2⟩
      dvd := h.dvd
      low := fun p h2 h3 h4 => by
        rcases Nat.lt_or_ge p d with h5 | h5
        · exact h.low p h5 h3 h4
        · exact hp p h5 (by omega) ⟨h3, h4⟩
      same := fun p k h2 h3 h4 => h1.same p k (by omega) h3 h4 }
/-- nothing is left: the list is whole -/
theorem TD.done {N d : Nat} {l : List (Nat × Nat)} (h : TD N d 1 l) (hN : 0 < N) (hd : d ≤ N + 1) : FacTo N (N + 1) l :=
  (h.up hN hd fun p _ _ h3 => by have := Nat.le_of_dvd (by omega) h3.2; have := h3.1.1; omega).fac
theorem TD.over {N d : Nat} {l : List (Nat × Nat)} (h : TD N d 1 l) (hN : 0 < N) : FacTo N (N + 1) l := by
  rcases Nat.le_total d (N + 1) with h1 | h1
  · exact h.done hN h1
  · refine ⟨?_, h.fac.2⟩
    obtain ⟨c, hc⟩ := Nat.exists_eq_add_of_le h1
    rw [h.fac.1, hc]
    exact prms_skip c (N + 1) fun p h2 _ h3 => by have := Nat.le_of_dvd hN h3.2; omega
/-- a prime is left: it is the last one -/
theorem TD.last {N d n : Nat} {l : List (Nat × Nat)} (h : TD N d n l) (hN : 0 < N) (hn : Pr n) (hd : d ≤ n) : FacTo N (N + 1) (l ++ [(n, 1)]) := by
  have h1 := h.up hN hd fun p h1 h2 h3 => by rcases hn.2 p h3.2 with h4 | h4 <;> (have := h3.1.1; omega)
  exact (h1.take hn.1 (Nat.one_pos) (n' := 1) (by rw [Nat.pow_one, Nat.mul_one]) (fun h2 => by have := Nat.le_of_dvd (by omega) h2; have := hn.1; omega)).over hN
end Go.Proofs.Ytcnkddoipmaddaa

namespace Go.Proofs.Ytcnkddoipmaddaa
open Mr
set_option linter.unusedVariables false

theorem fac_prime {N : Nat} {l : List (Nat × Nat)} (h : FacTo N (N + 1) l) {x : Nat × Nat} (hx : x ∈ l) : Mr.Pr x.1 ∧ x.1 ∣ N := by
  have h1 : x.1 ∈ prms N (N + 1) := by rw [← h.1]; exact List.mem_map.2 ⟨x, hx, rfl⟩
  exact (prms_mem.1 h1).2
theorem fac_all {N q : Nat} {l : List (Nat × Nat)} (h : FacTo N (N + 1) l) (hN : 0 < N) (hq : Mr.Pr q) (hd : q ∣ N) : ∃ (j : Nat) (x : Nat × Nat), l[j]? = some x ∧ x.1 = q := by
  have h1 : q ∈ prms N (N + 1) := prms_mem.2 ⟨by have := Nat.le_of_dvd hN hd; omega, hq, hd⟩
  rw [← h.1] at h1
  obtain ⟨x, hx, hxq⟩ := List.mem_map.1 h1
  obtain ⟨j, hj⟩ := List.getElem?_of_mem hx
  exact ⟨j, x, hj, hxq⟩
/-- the state of the test of one candidate: the first i primes -/
def TI (n o : Nat) (l : List (Nat × Nat)) (x i : Nat) (g : Bool) : Prop :=
  (g = true → ∀ (j : Nat) (y : Nat × Nat), j < i → l[j]? = some y → ¬ Mr.U n x (o / y.1)) ∧ (g = false → ∃ (j : Nat) (y : Nat × Nat), l[j]? = some y ∧ Mr.U n x (o / y.1))
theorem TI.start (n o x : Nat) (l : List (Nat × Nat)) : TI n o l x 0 true := ⟨fun _ j y h => absurd h (Nat.not_lt_zero j), fun h => by cases h⟩
theorem TI.good {n o x : Nat} {l : List (Nat × Nat)} (h : TI n o l x l.length true) (hf : FacTo o (o + 1) l) (ho : 0 < o) (hu : Mr.U n x o) : Ordr n x o :=
  ordr_of ho hu fun q hq hd hu' => by
    obtain ⟨j, y, h1, h2⟩ := fac_all hf ho hq hd
    subst h2
    exact h.1 rfl j y (List.getElem?_eq_some_iff.1 h1).1 h1 hu'
theorem TI.bad {n o x i : Nat} {l : List (Nat × Nat)} (h : TI n o l x i false) (hf : FacTo o (o + 1) l) : ¬ Ordr n x o := fun hx => by
  obtain ⟨j, y, h1, h2⟩ := h.2 rfl
  obtain ⟨h3, h4⟩ := fac_prime hf (List.mem_of_getElem? h1)
  exact hx.test h3.1 h4 h2
theorem TI.keep {n o x i : Nat} {l : List (Nat × Nat)} (h : TI n o l x i false) : TI n o l x (i + 1) false := ⟨fun h' => (by cases h'), h.2⟩
theorem TI.next {n o x i pv : Nat} {l : List (Nat × Nat)} {y : Nat × Nat} {g : Bool} (h : TI n o l x i true) (hy : l[i]? = some y) (hn : 2 ≤ n) (hpv : x ^ (o / y.1) % n = pv) (hg : g = !(decide (pv = 1))) : TI n o l x (i + 1) g := by
  have hiff : Mr.U n x (o / y.1) ↔ pv = 1 := by unfold Mr.U; rw [hpv, Nat.mod_eq_of_lt hn]
  refine ⟨fun h1 j z h2 h3 => ?_, fun h1 => ⟨i, y, hy, hiff.2 ?_⟩⟩
  · rcases Nat.lt_or_ge j i with h4 | h4
    · exact h.1 rfl j z h4 h3
    · obtain rfl : j = i := by omega
      rw [hy] at h3
      injection h3 with h3
      rw [← h3]
      intro h5
      rw [hg, hiff.1 h5] at h1
      cases h1
  · rw [hg] at h1
    simpa using h1
theorem Least.pos {n o v : Nat} (hp : Mr.Pr n) (h : Least n o v) : 1 ≤ v := by
  rcases Nat.eq_zero_or_pos v with h0 | h0
  · exfalso
    have h1 := U.coprime hp h.1.1 h.1.2.1
    rw [h0, Nat.gcd_zero_right] at h1
    have := hp.1
    omega
  · exact h0
theorem exists_least {n o : Nat} (hp : Mr.Pr n) (ho : 0 < o) (hd : o ∣ n - 1) : ∃ v, Least n o v := by
  obtain ⟨a, ha⟩ := exists_ord hp o ho hd
  have key : ∀ b, b < n → Ordr n b o → ∃ v, Least n o v := by
    intro b
    induction b using Nat.strongRecOn with
    | ind b ih =>
      intro hb hob
      rcases Classical.em (∃ u, u < b ∧ Ordr n u o) with ⟨u, h1, h2⟩ | h1
      · exact ih u h1 (by omega) h2
      · exact ⟨b, hob, hb, fun u h2 h3 => Nat.le_of_not_lt fun h4 => h1 ⟨u, h4, h3⟩⟩
  exact key (a % n) (Nat.mod_lt _ hp.pos) (Ordr.modl.2 ha)
theorem Ordr.down {n g o M : Nat} (hg : Ordr n g (n - 1)) (ho : 0 < o) (hM : n - 1 = o * M) : Ordr n (g ^ M % n) o := by
  have h0 := hg.1
  have hM0 : 0 < M := Nat.pos_of_ne_zero fun h => by rw [h, Nat.mul_zero] at hM; omega
  refine Ordr.modl.2 ⟨ho, U.pow.2 (by rw [Nat.mul_comm, ← hM]; exact hg.2.1), fun e he => ?_⟩
  have h1 := hg.2.2 _ (U.pow.1 he)
  rw [hM, Nat.mul_comm o] at h1
  exact Nat.dvd_of_mul_dvd_mul_left hM0 h1
theorem U.fermat {n g : Nat} (hp : Mr.Pr n) (h1 : 1 ≤ g) (h2 : g < n) : Mr.U n g (n - 1) := Mr.flt hp fun h => by have := Nat.le_of_dvd (by omega) h; omega

end Go.Proofs.Ytcnkddoipmaddaa
