/- Plain: the primes of a number by its list; the test of one candidate for a root; the least element of an order. No program in sight. -/
import Derived.Test.YtbajapjaejpcjaaOrd
import Derived.Test.YtbajapjaejpcjaaFac
namespace Go.Proofs.Ytbajapjaejpcjaa
open Mr
set_option linter.unusedVariables false

theorem fac_prime {N : Nat} {l : List (Nat × Nat)} (h : FacTo N (N + 1) l) {x : Nat × Nat} (hx : x ∈ l) : Mr.Pr x.1 ∧ x.1 ∣ N := by
  have h1 : x.1 ∈ prms N (N + 1) := by rw [← h.1]; exact List.mem_map.2 ⟨x, hx, rfl⟩
  exact (prms_mem.1 h1).2
theorem fac_all {N q : Nat} {l : List (Nat × Nat)} (h : FacTo N (N + 1) l) (hN : 0 < N) (hq : Mr.Pr q) (hd : q ∣ N) : ∃ (j : Nat) (x : Nat × Nat), l[j]? = some x ∧ x.1 = q := by
  have h1 : q ∈ prms N (N + 1) := prms_mem.2 ⟨by have := Nat.le_of_dvd hN hd; omega, hq, hd⟩
  rw [← h.1] at h1
  obtain ⟨x, hx, hxq⟩ := List.mem_map.1 h1
  obtain ⟨j, hj⟩ := List.getElem?_of_mem hx
  exact ⟨j, x, hj, hxq⟩
/-- the state of the test of one candidate: the first i primes -/
def TI (n o : Nat) (l : List (Nat × Nat)) (x i : Nat) (g : Bool) : Prop :=
  (g = true → ∀ (j : Nat) (y : Nat × Nat), j < i → l[j]? = some y → ¬ Mr.U n x (o / y.1)) ∧ (g = false → ∃ (j : Nat) (y : Nat × Nat), l[j]? = some y ∧ Mr.U n x (o / y.1))
theorem TI.start (n o x : Nat) (l : List (Nat × Nat)) : TI n o l x 0 true := ⟨fun _ j y h => absurd h (Nat.not_lt_zero j), fun h => by cases h⟩
theorem TI.good {n o x : Nat} {l : List (Nat × Nat)} (h : TI n o l x l.length true) (hf : FacTo o (o + 1) l) (ho : 0 < o) (hu : Mr.U n x o) : Ordr n x o :=
  ordr_of ho hu fun q hq hd hu' => by
    obtain ⟨j, y, h1, h2⟩ := fac_all hf ho hq hd
    subst h2
    exact h.1 rfl j y (List.getElem?_eq_some_iff.1 h1).1 h1 hu'
theorem TI.bad {n o x i : Nat} {l : List (Nat × Nat)} (h : TI n o l x i false) (hf : FacTo o (o + 1) l) : ¬ Ordr n x o := fun hx => by
  obtain ⟨j, y, h1, h2⟩ := h.2 rfl
  obtain ⟨h3, h4⟩ := fac_prime hf (List.mem_of_getElem? h1)
  exact hx.test h3.1 h4 h2
theorem TI.keep {n o x i : Nat} {l : List (Nat × Nat)} (h : TI n o l x i false) : TI n o l x (i + 1) false := ⟨fun h' => (by cases h'), h.2⟩
theorem TI.next {n o x i pv : Nat} {l : List (Nat × Nat)} {y : Nat × Nat} {g : Bool} (h : TI n o l x i true) (hy : l[i]? = some y) (hn : 2 ≤ n) (hpv : x ^ (o / y.1) % n = pv) (hg : g = !(decide (pv = 1))) : TI n o l x (i + 1) g := by
  have hiff : Mr.U n x (o / y.1) ↔ pv = 1 := by unfold Mr.U; rw [hpv, Nat.mod_eq_of_lt hn]
  refine ⟨fun h1 j z h2 h3 => ?_, fun h1 => ⟨i, y, hy, hiff.2 ?_⟩⟩
  · rcases Nat.lt_or_ge j i with h4 | h4
    · exact h.1 rfl j z h4 h3
    · obtain rfl : j = i := by omega
      rw [hy] at h3
      injection h3 with h3
      rw [← h3]
      intro h5
      rw [hg, hiff.1 h5] at h1
      cases h1
  · rw [hg] at h1
    simpa using h1
theorem Least.pos {n o v : Nat} (hp : Mr.Pr n) (h : Least n o v) : 1 ≤ v := by
  rcases Nat.eq_zero_or_pos v with h0 | h0
  · exfalso
    have h1 := U.coprime hp h.1.1 h.1.2.1
    rw [h0, Nat.gcd_zero_right] at h1
    have := hp.1
    omega
  · exact h0
theorem exists_least {n o : Nat} (hp : Mr.Pr n) (ho : 0 < o) (hd : o ∣ n - 1) : ∃ v, Least n o v := by
  obtain ⟨a, ha⟩ := exists_ord hp o ho hd
  have key : ∀ b, b < n → Ordr n b o → ∃ v, Least n o v := by
    intro b
    induction b using Nat.strongRecOn with
    | ind b ih =>
      intro hb hob
      rcases Classical.em (∃ u, u < b ∧ Ordr n u o) with ⟨u, h1, h2⟩ | h1
      · exact ih u h1 (by omega) h2
      · exact ⟨b, hob, hb, fun u h2 h3 => Nat.le_of_not_lt fun h4 => h1 ⟨u, h4, h3⟩⟩
  exact key (a % n) (Nat.mod_lt _ hp.pos) (Ordr.modl.2 ha)
theorem Ordr.down {n g o M : Nat} (hg : Ordr n g (n - 1)) (ho : 0 < o) (hM : n - 1 = o * M) : Ordr n (g ^ M % n) o := by
  have h0 := hg.1
  have hM0 : 0 < M := Nat.pos_of_ne_zero fun h => by rw [h, Nat.mul_zero] at hM; omega
  refine Ordr.modl.2 ⟨ho, U.pow.2 (by rw [Nat.mul_comm, ← hM]; exact hg.2.1), fun e he => ?_⟩
  have h1 := hg.2.2 _ (U.pow.1 he)
  rw [hM, Nat.mul_comm o] at h1
  exact Nat.dvd_of_mul_dvd_mul_left hM0 h1
theorem U.fermat {n g : Nat} (hp : Mr.Pr n) (h1 : 1 ≤ g) (h2 : g < n) : Mr.U n g (n - 1) := Mr.flt hp fun h => by have := Nat.le_of_dvd (by omega) h; omega

end Go.Proofs.Ytbajapjaejpcjaa
