/- Plain: the listed prime powers ascend, and multiply to the number. No program in sight. -/
import Derived.Test.YtigefhlgkmfgmaaFac
namespace Go.Proofs.Ytigefhlgkmfgmaa
open Mr
set_option linter.unusedVariables false

theorem prms_asc (N d : Nat) : (prms N d).Pairwise (· < ·) := List.Pairwise.filter _ List.pairwise_lt_range
theorem fac_asc {N d : Nat} {l : List (Nat × Nat)} (h : FacTo N d l) {i j : Nat} {x y : Nat × Nat} (hij : i < j) (hx : l[i]? = some x) (hy : l[j]? = some y) : x.1 < y.1 := by
  have h1 := prms_asc N d
  rw [← h.1, List.pairwise_iff_getElem] at h1
  obtain ⟨hi, hx⟩ := List.getElem?_eq_some_iff.1 hx
  obtain ⟨hj, hy⟩ := List.getElem?_eq_some_iff.1 hy
  have h2 := h1 i j (by simpa using hi) (by simpa using hj) hij
  simpa [hx, hy] using h2
theorem fac_pr {N d : Nat} {l : List (Nat × Nat)} (h : FacTo N d l) {x : Nat × Nat} (hx : x ∈ l) : Pr x.1 ∧ x.1 ∣ N := by
  have h1 : x.1 ∈ prms N d := by rw [← h.1]; exact List.mem_map.2 ⟨x, hx, rfl⟩
  exact (prms_mem.1 h1).2
theorem fac_exp {N d : Nat} {l : List (Nat × Nat)} (h : FacTo N d l) (hN : 0 < N) (hN2 : N ≤ 4294967295) {x : Nat × Nat} (hx : x ∈ l) : 1 ≤ x.2 ∧ x.2 ≤ 31 := by
  obtain ⟨hp, hd⟩ := fac_pr h hx
  obtain ⟨v1, v2⟩ := h.2 x hx
  constructor
  · rcases Nat.eq_zero_or_pos x.2 with h0 | h0
    · rw [h0, Nat.zero_add, Nat.pow_one] at v2
      exact absurd hd v2
    · exact h0
  · rcases Nat.lt_or_ge 31 x.2 with h1 | h1
    · have h2 := Nat.le_of_dvd hN v1
      have h3 : 2 ^ 32 ≤ 2 ^ x.2 := Nat.pow_le_pow_right (by omega) h1
      have h4 : 2 ^ x.2 ≤ x.1 ^ x.2 := Nat.pow_le_pow_left hp.1 _
      omega
    · exact h1
theorem pr_dvd_pow {q a : Nat} (hq : Pr q) : ∀ e, q ∣ a ^ e → q ∣ a
  | 0, h => by rw [Nat.pow_zero] at h; have := Nat.le_of_dvd Nat.one_pos h; have := hq.1; omega
  | e + 1, h => by rw [Nat.pow_succ] at h; exact (hq.dvd_mul h).elim (pr_dvd_pow hq e) id

/-- the product of the listed powers -/
def pf (l : List (Nat × Nat)) : Nat := l.foldl (fun p x => p * x.1 ^ x.2) 1
theorem pf_take {l : List (Nat × Nat)} {i : Nat} {x : Nat × Nat} (hx : l[i]? = some x) : pf (l.take (i + 1)) = pf (l.take i) * x.1 ^ x.2 := by
  unfold pf
  rw [List.take_add_one, hx, List.foldl_append]
  rfl
theorem pf_spec {N d : Nat} {l : List (Nat × Nat)} (h : FacTo N d l) : ∀ i, i ≤ l.length → pf (l.take i) ∣ N ∧ (∀ q, Pr q → q ∣ pf (l.take i) → ∃ j x, j < i ∧ l[j]? = some x ∧ x.1 = q) ∧ ∀ j x, j < i → l[j]? = some x → x.1 ^ x.2 ∣ pf (l.take i)
  | 0, _ => ⟨Nat.one_dvd N, fun q hq hd => by
      have := Nat.le_of_dvd Nat.one_pos hd
      have := hq.1
      omega, fun j x hj => absurd hj (Nat.not_lt_zero j)⟩
  | i + 1, hi => by
    obtain ⟨h1, h2, h3⟩ := pf_spec h i (by omega)
    obtain ⟨x, hx⟩ : ∃ x, l[i]? = some x := ⟨l[i], List.getElem?_eq_getElem (by omega)⟩
    obtain ⟨hp, _⟩ := fac_pr h (List.mem_of_getElem? hx)
    have hv := h.2 x (List.mem_of_getElem? hx)
    rw [pf_take hx]
    have hnd : ¬ x.1 ∣ pf (l.take i) := fun hd => by
      obtain ⟨j, y, hj, hy, he⟩ := h2 x.1 hp hd
      have := fac_asc h hj hy hx
      omega
    have hg : Nat.Coprime (pf (l.take i)) (x.1 ^ x.2) := by
      refine Nat.Coprime.pow_right _ ?_
      have := hp.coprime hnd
      rw [Nat.gcd_comm] at this
      exact this
    refine ⟨Nat.Coprime.mul_dvd_of_dvd_of_dvd hg h1 hv.1, fun q hq hd => ?_, fun j y hj hy => ?_⟩
    · rcases hq.dvd_mul hd with h4 | h4
      · obtain ⟨j, y, hj, hy, he⟩ := h2 q hq h4
        exact ⟨j, y, by omega, hy, he⟩
      · have h5 := pr_dvd_pow hq _ h4
        refine ⟨i, x, by omega, hx, ?_⟩
        rcases hp.2 q h5 with h6 | h6
        · have := hq.1; omega
        · exact h6.symm
    · rcases Nat.lt_or_ge j i with h4 | h4
      · exact Nat.dvd_trans (h3 j y h4 hy) (Nat.dvd_mul_right _ _)
      · obtain rfl : j = i := by omega
        rw [hx] at hy
        injection hy with hy
        rw [← hy]
        exact Nat.dvd_mul_left _ _
theorem pf_all {N : Nat} {l : List (Nat × Nat)} (h : FacTo N (N + 1) l) (hN : 0 < N) : pf l = N := by
  obtain ⟨⟨M, hM⟩, _, h3⟩ := pf_spec h l.length (Nat.le_refl _)
  rw [List.take_length] at hM h3
  have hM1 : M = 1 := by
    rcases Nat.lt_or_ge 1 M with h1 | h1
    · exfalso
      obtain ⟨q, hq, c, hc⟩ := exists_prime_dvd M h1
      have hqN : q ∣ N := ⟨pf l * c, by rw [hM, hc, Nat.mul_left_comm]⟩
      have hmem : q ∈ prms N (N + 1) := prms_mem.2 ⟨by have := Nat.le_of_dvd hN hqN; omega, hq, hqN⟩
      rw [← h.1] at hmem
      obtain ⟨x, hx, hxq⟩ := List.mem_map.1 hmem
      obtain ⟨j, hj⟩ := List.getElem?_of_mem hx
      have hjl := (List.getElem?_eq_some_iff.1 hj).1
      have h4 := h3 j x hjl hj
      refine (h.2 x hx).2 ?_
      rw [hM, Nat.pow_succ]
      exact Nat.mul_dvd_mul h4 (by rw [hxq]; exact ⟨c, hc⟩)
    · rcases Nat.eq_zero_or_pos M with h2 | h2
      · rw [h2, Nat.mul_zero] at hM; omega
      · omega
  rw [hM1, Nat.mul_one] at hM
  exact hM.symm
/-- what the inner loop has made so far is not above the number -/
theorem pf_le {N d : Nat} {l : List (Nat × Nat)} (h : FacTo N d l) (hN : 0 < N) {i m : Nat} {x : Nat × Nat} (hx : l[i]? = some x) (hm : m ≤ x.2) : pf (l.take i) * x.1 ^ m ≤ N := by
  have hil := (List.getElem?_eq_some_iff.1 hx).1
  obtain ⟨h1, _⟩ := pf_spec h (i + 1) hil
  rw [pf_take hx] at h1
  have h2 := Nat.le_of_dvd hN h1
  have hp := (fac_pr h (List.mem_of_getElem? hx)).1
  have h3 : x.1 ^ m ≤ x.1 ^ x.2 := Nat.pow_le_pow_right hp.pos hm
  exact Nat.le_trans (Nat.mul_le_mul_left _ h3) h2
end Go.Proofs.Ytigefhlgkmfgmaa
