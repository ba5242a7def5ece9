/- The law PolysCompares of layer 25. -/
import Derived.Test.YtmidpholmgmdpaaPr25
import Derived.Test.YtmidpholmgmdpaaLH25
namespace Go.Proofs.Ytmidpholmgmdpaa
open Go.RowKit
set_option linter.unusedVariables false

theorem fieldE_cases (p : Nat) : (fieldE p = 0 ∧ 3 ≤ p ∧ p ≤ 256 ∧ prL p = true) ∨ (fieldE p = 2 ∧ p < 3) ∨ (fieldE p = 2 ∧ 256 < p ∧ 65535 < p) ∨ (fieldE p = 3 ∧ 256 < p ∧ p ≤ 65535 ∧ prL p = true) ∨ (fieldE p = 2 ∧ 256 < p ∧ p ≤ 65535 ∧ prL p = false) ∨ (fieldE p = 2 ∧ 3 ≤ p ∧ p ≤ 256 ∧ prL p = false) := by
  have h7 : pp7 p = true ↔ 3 ≤ p ∧ p ≤ 65535 ∧ Mr.Pr p := pp7_yes
  unfold fieldE
  cases hb : prL p with
  | true =>
    obtain ⟨h1, h2⟩ := prL_yes.1 hb
    by_cases h3 : p < 3
    · rw [if_neg (fun h => by have := h7.1 h; omega)]
      exact .inr (.inl ⟨rfl, h3⟩)
    · rw [if_pos (h7.2 ⟨by omega, h1, h2⟩)]
      by_cases h4 : 256 < p
      · rw [if_pos h4]; exact .inr (.inr (.inr (.inl ⟨rfl, h4, h1, rfl⟩)))
      · rw [if_neg h4]; exact .inl ⟨rfl, by omega, by omega, rfl⟩
  | false =>
    have hn := prL_no.1 hb
    rw [if_neg (fun h => by have := h7.1 h; exact hn ⟨this.2.1, this.2.2⟩)]
    by_cases h3 : p < 3
    · exact .inr (.inl ⟨rfl, h3⟩)
    · by_cases h4 : 256 < p
      · by_cases h5 : 65535 < p
        · exact .inr (.inr (.inl ⟨rfl, h4, h5⟩))
        · exact .inr (.inr (.inr (.inr (.inl ⟨rfl, h4, by omega, rfl⟩))))
      · exact .inr (.inr (.inr (.inr (.inr ⟨rfl, by omega, by omega, rfl⟩))))
/-- the values of Equal and of Less -/
theorem eq_want {p : Nat} {c : Int} (h3 : 3 ≤ p) (ho : p % 2 = 1) (hb : balB p c = true) {i : Nat} (hi : i < p) : stF ((c + p) % (p : Int)).toNat (((c + p) % (p : Int)).toNat + 1) i = if (c - (i : Int)).tmod (p : Int) = 0 then 1 else 0 := by
  obtain ⟨b1, b2⟩ := balB_yes.1 hb
  have h1 := Int.emod_nonneg (c + p) (show (p : Int) ≠ 0 by omega)
  have h2 := Int.emod_lt_of_pos (c + p) (show (0 : Int) < (p : Int) by omega)
  obtain ⟨z, hz, z1, z2, ⟨q, hq⟩⟩ := tm_fact (c - (i : Int)) (m := p) (by omega)
  rw [hz]
  have hd := Int.emod_add_mul_ediv (c + p) (p : Int)
  obtain ⟨r, hr⟩ : ∃ r, (c + p) % (p : Int) = r := ⟨_, rfl⟩
  obtain ⟨d, hd2⟩ : ∃ d, (c + p) / (p : Int) = d := ⟨_, rfl⟩
  rw [hr, hd2] at hd
  rw [hr] at h1 h2 ⊢
  unfold stF
  -- c - i = z - p q, c + p = r + p d, |c| at most p / 2
  have hdc : d = 0 ∨ d = 1 := by
    rcases Int.lt_trichotomy d 0 with h | h | h
    · have := Int.mul_le_mul_of_nonneg_left (show d ≤ -1 by omega) (show (0 : Int) ≤ p by omega); omega
    · exact .inl h
    · rcases (by omega : d = 1 ∨ 2 ≤ d) with h | h
      · exact .inr h
      · have := Int.mul_le_mul_of_nonneg_left h (show (0 : Int) ≤ p by omega); omega
  by_cases hz0 : z = 0
  · rw [if_pos hz0]
    have : r = (i : Int) := by
      have hq2 : q = 0 ∨ q = 1 ∨ q = -1 ∨ q = 2 := by
        rcases Int.lt_or_le q (-1) with h | h
        · have := Int.mul_le_mul_of_nonneg_left (show q ≤ -2 by omega) (show (0 : Int) ≤ p by omega); omega
        · rcases Int.lt_or_le 2 q with h' | h'
          · have := Int.mul_le_mul_of_nonneg_left (show 3 ≤ q by omega) (show (0 : Int) ≤ p by omega); omega
          · omega
      rcases hdc with rfl | rfl <;> rcases hq2 with rfl | rfl | rfl | rfl <;> omega
    rw [if_pos (by omega)]
  · rw [if_neg hz0, if_neg]
    intro h
    have hri : r = (i : Int) := by omega
    have hq2 : q = 0 ∨ q = 1 ∨ q = -1 := by
      rcases Int.lt_or_le q (-1) with h | h
      · have := Int.mul_le_mul_of_nonneg_left (show q ≤ -2 by omega) (show (0 : Int) ≤ p by omega)
        rcases hdc with rfl | rfl <;> omega
      · rcases Int.lt_or_le 1 q with h' | h'
        · have := Int.mul_le_mul_of_nonneg_left (show 2 ≤ q by omega) (show (0 : Int) ≤ p by omega)
          rcases hdc with rfl | rfl <;> omega
        · omega
    rcases hdc with rfl | rfl <;> rcases hq2 with rfl | rfl | rfl <;> omega
theorem cp_vals {p : Nat} {y : Nat → Int} {k : Nat} {f : Nat → Nat} (hf : fieldE p = 0) (hth : Thr p p (idF p) (resF p p y) k f) (hy : TbOk p p y) : k ≤ p ∧ ∀ i : Nat, i < p → valZ p (balF p k f) k (i : Int) = y i :=
  ⟨hth.le, fun i hi => thr_val hf hy hth i hi⟩
end Go.Proofs.Ytmidpholmgmdpaa
