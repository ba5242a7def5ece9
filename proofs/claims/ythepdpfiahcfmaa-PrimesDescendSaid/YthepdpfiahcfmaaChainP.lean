/- Plain: the primes of a descending sequence, down to a bound. No program in sight. -/
import Derived.Test.YthepdpfiahcfmaaSeq
import Derived.Test.YthepdpfiahcfmaaPrime
namespace Go.Proofs.Ythepdpfiahcfmaa
set_option linter.unusedVariables false

/-- the primes among the first j numbers of a sequence -/
noncomputable def chl (F : Nat → Nat) (j : Nat) : List Nat := ((List.range j).map F).filter prB
theorem chl_zero (F : Nat → Nat) : chl F 0 = [] := rfl
theorem chl_succ (F : Nat → Nat) (j : Nat) : chl F (j + 1) = chl F j ++ if prB (F j) = true then [F j] else [] := by
  unfold chl
  rw [List.range_succ, List.map_append, List.filter_append]
  congr 1
  show [F j].filter prB = _
  by_cases h : prB (F j) = true
  · rw [if_pos h, List.filter_cons_of_pos h, List.filter_nil]
  · rw [if_neg h, List.filter_cons_of_neg h, List.filter_nil]
theorem chl_yes {F : Nat → Nat} {j : Nat} (h : Mr.Pr (F j)) : chl F (j + 1) = chl F j ++ [F j] := by rw [chl_succ, if_pos (prB_yes h)]
theorem chl_no {F : Nat → Nat} {j : Nat} (h : ¬ Mr.Pr (F j)) : chl F (j + 1) = chl F j := by rw [chl_succ, if_neg (by rw [prB_no h]; decide), List.append_nil]
theorem chl_pre (F : Nat → Nat) : ∀ d j, ∃ t, chl F (j + d) = chl F j ++ t
  | 0, j => ⟨[], by rw [Nat.add_zero, List.append_nil]⟩
  | d + 1, j => by
    obtain ⟨t, ht⟩ := chl_pre F d j
    exact ⟨_, by rw [← Nat.add_assoc, chl_succ, ht, List.append_assoc]⟩
theorem chl_le {F : Nat → Nat} {i j : Nat} (h : i ≤ j) : (chl F i).length ≤ (chl F j).length := by
  obtain ⟨d, rfl⟩ := Nat.exists_eq_add_of_le h
  obtain ⟨t, ht⟩ := chl_pre F d i
  rw [ht, List.length_append]
  omega
theorem chl_same {F : Nat → Nat} {i j : Nat} (h : i ≤ j) (hl : (chl F i).length = (chl F j).length) : chl F i = chl F j := by
  obtain ⟨d, rfl⟩ := Nat.exists_eq_add_of_le h
  obtain ⟨t, ht⟩ := chl_pre F d i
  rw [ht, List.length_append] at hl
  have : t = [] := List.length_eq_zero_iff.1 (by omega)
  rw [ht, this, List.append_nil]

/-- the first numbers of the sequence that are primes, as many as are wanted -/
def ChainR (F : Nat → Nat) (K count : Nat) (l : List Nat) (E : Nat) : Prop :=
  (∃ j, j ≤ K ∧ (∀ i, i < j → 1073741824 < F i) ∧ chl F j = l ∧ l.length = count ∧ E = 0) ∨
  (∃ j, j ≤ K ∧ (j = K ∨ F j ≤ 1073741824) ∧ (∀ i, i < j → 1073741824 < F i) ∧ (chl F j).length < count ∧ l = [] ∧ E = 4)
theorem ChainR.uniq {F : Nat → Nat} {K count : Nat} {l l' : List Nat} {E E' : Nat} (h : ChainR F K count l E) (h' : ChainR F K count l' E') : l' = l ∧ E' = E := by
  have key : ∀ {i j : Nat}, (chl F i).length = count → (chl F j).length < count → i ≤ K → (∀ k, k < i → 1073741824 < F k) → (j = K ∨ F j ≤ 1073741824) → False := fun {i j} a b c d e => by
    have hij : j < i := by
      rcases Nat.lt_or_ge j i with h1 | h1
      · exact h1
      · have := chl_le (F := F) h1
        omega
    rcases e with e | e
    · omega
    · have := d j hij
      omega
  rcases h with ⟨j, h1, h2, rfl, h3, rfl⟩ | ⟨j, h1, h2, h3, h4, rfl, rfl⟩ <;> rcases h' with ⟨i, g1, g2, rfl, g3, rfl⟩ | ⟨i, g1, g2, g3, g4, rfl, rfl⟩
  · refine ⟨?_, rfl⟩
    rcases Nat.le_total i j with h | h
    · exact chl_same h (by omega)
    · exact (chl_same h (by omega)).symm
  · exact (key h3 g4 h1 h2 g2).elim
  · exact (key g3 h4 g1 g2 h2).elim
  · exact ⟨rfl, rfl⟩
end Go.Proofs.Ythepdpfiahcfmaa
