/- The plain law of Make: how many products and steps. No program in sight. -/
import Derived.Test.YtmidpholmgmdpaaPm25
namespace Go.Proofs.Ytmidpholmgmdpaa
open Go.RowKit
set_option linter.unusedVariables false

/-- how many products the first n steps hold -/
def mcnt (s : Nat → PS) (n : Nat) : Nat := sumN (fun i => if (s i).mul = true then 1 else 0) n
/-- how many powers have a register -/
def pcnt (f : Nat → Option Int) : Nat := sumN (fun k => if (f k).isSome = true then 1 else 0) 257
theorem sumN_congr' {f g : Nat → Nat} : ∀ n, (∀ i, i < n → f i = g i) → sumN f n = sumN g n
  | 0, _ => rfl
  | n + 1, h => by
    show sumN f n + f n = sumN g n + g n
    rw [sumN_congr' n fun i hi => h i (by omega), h n (by omega)]
theorem sumN_upd {f g : Nat → Nat} {k : Nat} (hf : f k = 0) (hg : g k = 1) (h : ∀ i, i ≠ k → g i = f i) : ∀ n, sumN g n = sumN f n + if k < n then 1 else 0
  | 0 => by rw [if_neg (Nat.not_lt_zero k)]; rfl
  | n + 1 => by
    show sumN g n + g n = sumN f n + f n + _
    rw [sumN_upd hf hg h n]
    by_cases e : n = k
    · subst e
      rw [if_neg (Nat.lt_irrefl _), if_pos (Nat.lt_succ_self _), hf, hg]
    · rw [h n e]
      by_cases h2 : k < n
      · rw [if_pos h2, if_pos (by omega)]; omega
      · rw [if_neg h2, if_neg (by omega)]; omega
theorem sumN_mono' {f g : Nat → Nat} : ∀ n, (∀ i, i < n → f i ≤ g i) → sumN f n ≤ sumN g n
  | 0, _ => Nat.le_refl _
  | n + 1, h => Nat.add_le_add (sumN_mono' n fun i hi => h i (by omega)) (h n (by omega))
theorem mcnt_push (σ : MSt) (S : PS) : mcnt (σ.push S).s (σ.push S).n = mcnt σ.s σ.n + if S.mul = true then 1 else 0 := by
  show sumN _ σ.n + (if ((σ.push S).s σ.n).mul = true then 1 else 0) = _
  rw [show (σ.push S).s σ.n = S from if_pos rfl]
  congr 1
  exact sumN_congr' σ.n fun i hi => by rw [show (σ.push S).s i = σ.s i from if_neg (by omega)]
/-- the powers that are wanted: those up to bb, and the powers of two -/
def inK (bb E k : Nat) : Bool := decide (1 ≤ k) && (decide (k ≤ bb) || (List.range (E + 1)).any fun j => k == 2 ^ j)
theorem inK_iff {bb E k : Nat} : inK bb E k = true ↔ 1 ≤ k ∧ (k ≤ bb ∨ ∃ j, j ≤ E ∧ k = 2 ^ j) := by
  unfold inK
  simp only [Bool.and_eq_true, Bool.or_eq_true, decide_eq_true_eq, List.any_eq_true, List.mem_range, beq_iff_eq]
  constructor
  · rintro ⟨h1, h2 | ⟨j, h2, h3⟩⟩
    · exact ⟨h1, .inl h2⟩
    · exact ⟨h1, .inr ⟨j, by omega, h3⟩⟩
  · rintro ⟨h1, h2 | ⟨j, h2, h3⟩⟩
    · exact ⟨h1, .inl h2⟩
    · exact ⟨h1, .inr ⟨j, by omega, h3⟩⟩
theorem inK_half {bb E k : Nat} (h : inK bb E k = true) (hk : 2 ≤ k) : inK bb E ((k + 1) / 2) = true ∧ inK bb E (k / 2) = true := by
  obtain ⟨h1, h2⟩ := inK_iff.1 h
  rcases h2 with h2 | ⟨j, h2, rfl⟩
  · exact ⟨inK_iff.2 ⟨by omega, .inl (by omega)⟩, inK_iff.2 ⟨by omega, .inl (by omega)⟩⟩
  · obtain ⟨j', rfl⟩ : ∃ j', j = j' + 1 := ⟨j - 1, by
      rcases j with _ | j
      · simp at hk
      · omega⟩
    rw [Nat.pow_succ]
    have := Nat.one_le_two_pow (n := j')
    exact ⟨inK_iff.2 ⟨by omega, .inr ⟨j', by omega, by omega⟩⟩, inK_iff.2 ⟨by omega, .inr ⟨j', by omega, by omega⟩⟩⟩
def KeyIn (bb E : Nat) (σ : MSt) : Prop := ∀ k, σ.f k ≠ none → inK bb E k = true
theorem PowR.count {bb E : Nat} {σ σ' : MSt} {k : Nat} {r : Int} (h : PowR σ k σ' r) (hk : inK bb E k = true) (hk2 : k ≤ 256) (h1 : σ.f 1 = some 0) (hK : KeyIn bb E σ) :
    KeyIn bb E σ' ∧ σ'.f 1 = some 0 ∧ σ'.n + pcnt σ.f = σ.n + pcnt σ'.f ∧ mcnt σ'.s σ'.n + pcnt σ.f = mcnt σ.s σ.n + pcnt σ'.f := by
  induction h with
  | hit h => exact ⟨hK, h1, rfl, rfl⟩
  | @mk σ σ1 σ2 k a b h ha hb ih1 ih2 =>
    have hk1 : k ≠ 1 := fun e => by rw [e, h1] at h; cases h
    have hk0 := (inK_iff.1 hk).1
    obtain ⟨i1, i2⟩ := inK_half hk (by omega)
    obtain ⟨a1, a2, a3, a4⟩ := ih1 i1 (by omega) h1 hK
    obtain ⟨b1, b2, b3, b4⟩ := ih2 i2 (by omega) a2 a1
    -- the power itself is not among the registers of its halves
    have hno : ∀ {τ τ' : MSt} {j : Nat} {q : Int}, PowR τ j τ' q → 1 ≤ j → τ.f 1 = some 0 → j < k → τ.f k = none → τ'.f k = none := fun {τ τ' j q} hp => by
      induction hp with
      | hit h => exact fun _ _ _ h => h
      | @mk τ τ1 τ2 j a b hj _ _ jh1 jh2 =>
        intro hj1 ht1 hjk hn
        have hj2 : j ≠ 1 := fun e => by rw [e, ht1] at hj; cases hj
        rename_i hp1 hp2
        have f1 := (hp1.facts (by omega) ht1).1
        show upd τ2.f j _ k = none
        rw [upd_other _ _ (by omega)]
        exact jh2 (by omega) f1 (by omega) (jh1 (by omega) ht1 (by omega) hn)
    have hn1 := hno ha (by omega) h1 (by omega) h
    have hn2 := hno hb (by omega) a2 (by omega) hn1
    have hc : pcnt (upd σ2.f k (some ((σ2.n : Int) + 1))) = pcnt σ2.f + 1 := by
      unfold pcnt
      rw [sumN_upd (f := fun i => if (σ2.f i).isSome = true then 1 else 0) (g := fun i => if (upd σ2.f k (some ((σ2.n : Int) + 1)) i).isSome = true then 1 else 0) (k := k) (by rw [hn2]; rfl) (by rw [upd_same]; rfl) (fun i hi => by rw [upd_other _ _ hi]) 257, if_pos (by omega)]
    refine ⟨fun k' hk' => ?_, (upd_other _ _ (fun e => hk1 e.symm)).trans b2, ?_, ?_⟩
    · by_cases e : k' = k
      · subst e; exact hk
      · exact b1 k' fun hn => hk' ((upd_other σ2.f (some ((σ2.n : Int) + 1)) e).trans hn)
    · show σ2.n + 1 + pcnt σ.f = σ.n + pcnt (upd σ2.f k (some ((σ2.n : Int) + 1)))
      rw [hc]
      omega
    · show mcnt (σ2.push (mulS a b)).s (σ2.push (mulS a b)).n + pcnt σ.f = mcnt σ.s σ.n + pcnt (upd σ2.f k (some ((σ2.n : Int) + 1)))
      rw [hc, mcnt_push, if_pos (show (mulS a b).mul = true from rfl)]
      omega
theorem RegR.count {σ σ' : MSt} {a r : Int} {f : Nat → Option Int} (h : RegR σ a f σ' r) : σ'.f = σ.f ∧ σ'.n ≤ σ.n + 1 ∧ mcnt σ'.s σ'.n = mcnt σ.s σ.n := by
  cases h with
  | one h h2 => exact ⟨rfl, by omega, rfl⟩
  | mk h1 h2 h3 h4 h5 h6 h7 =>
    rename_i S
    refine ⟨rfl, Nat.le_refl _, ?_⟩
    rw [mcnt_push, if_neg (by rw [h1]; exact Bool.false_ne_true)]
    rfl
theorem PowsR.count {bb E : Nat} {c : Nat → Int} {σ σ' : MSt} {i : Nat} {a : Int} {f : Nat → Option Int} (h : PowsR c σ i σ' a f) (hi : i ≤ bb + 1) (hbb : bb ≤ 255) (h1 : σ.f 1 = some 0) (hK : KeyIn bb E σ) :
    KeyIn bb E σ' ∧ σ'.f 1 = some 0 ∧ σ'.n + pcnt σ.f = σ.n + pcnt σ'.f ∧ mcnt σ'.s σ'.n + pcnt σ.f = mcnt σ.s σ.n + pcnt σ'.f := by
  induction h with
  | nil => exact ⟨hK, h1, rfl, rfl⟩
  | head h ih => exact ih (by omega)
  | skip h h0 hc ih => exact ih (by omega)
  | @pow σ1 σ2 i R a f h h0 hc hp ih =>
    obtain ⟨a1, a2, a3, a4⟩ := ih (by omega)
    obtain ⟨b1, b2, b3, b4⟩ := hp.count (inK_iff.2 ⟨h0, .inl (by omega)⟩) (by omega) a2 a1
    exact ⟨b1, b2, by omega, by omega⟩
theorem FormR.count {b E : Nat} {σ σ' : MSt} {m : Nat} {c : Nat → Int} {a : Int} {f : Nat → Option Int} (h : FormR (2 ^ b) σ m c σ' a f) (hb : 2 ^ b ≤ 255) (hm : m ≤ 256) (hE : m - 1 ≤ 2 ^ (E + 1)) (h1 : σ.f 1 = some 0) (hK : KeyIn (2 ^ b) E σ) :
    KeyIn (2 ^ b) E σ' ∧ σ'.f 1 = some 0 ∧ ∃ sp : Nat, sp * 2 ^ b ≤ m - 2 ∧ σ'.n + pcnt σ.f ≤ σ.n + pcnt σ'.f + 2 * sp ∧ mcnt σ'.s σ'.n + pcnt σ.f = mcnt σ.s σ.n + pcnt σ'.f + sp := by
  have hb1 := Nat.one_le_two_pow (n := b)
  generalize hbb : 2 ^ b = bb at h hb hK hb1 ⊢
  induction h with
  | trim h h0 ih =>
    obtain ⟨a1, a2, sp, a3, a4⟩ := ih (by omega) (by omega) h1 hK
    exact ⟨a1, a2, sp, by omega, a4⟩
  | base hm2 h =>
    obtain ⟨a1, a2, a3, a4⟩ := h.count hm2 hb h1 hK
    exact ⟨a1, a2, 0, by omega, by omega, by omega⟩
  | @split σ σ1 σ2 σ3 σ4 m h c b1 b2 rh rp f1 f2 hm2 h0 hh _ hr _ hp ih1 ih3 =>
    have hh2 := halfOf_lt (m := m) (by omega) (by omega)
    rw [hh] at hh2
    obtain ⟨L, hL⟩ : ∃ L, h = 2 ^ L := ⟨_, hh.symm⟩
    obtain ⟨a1, a2, s1, a3, a4, a5⟩ := ih1 (by omega) (by omega) h1 hK
    obtain ⟨r1, r2, r3⟩ := hr.count
    obtain ⟨c1, c2, s3, c3, c4, c5⟩ := ih3 (by omega) (by omega) (by rw [r1]; exact a2) (fun k hk => a1 k (by rw [r1] at hk; exact hk))
    have hLE : L ≤ E := by
      rcases Nat.lt_or_ge E L with h3 | h3
      · have := Nat.pow_le_pow_right (show 0 < 2 by omega) (show E + 1 ≤ L by omega)
        omega
      · exact h3
    have hbL : b ≤ L := by
      rcases Nat.lt_or_ge L b with h3 | h3
      · have := Nat.pow_le_pow_right (show 0 < 2 by omega) (show L + 1 ≤ b by omega)
        rw [Nat.pow_succ] at this
        omega
      · exact h3
    obtain ⟨d1, d2, d3, d4⟩ := hp.count (bb := bb) (E := E) (inK_iff.2 ⟨by omega, .inr ⟨L, hLE, hL⟩⟩) (by omega) c2 c1
    obtain ⟨w, hw⟩ : ∃ w, h = w * bb := ⟨2 ^ (L - b), by rw [hL, ← hbb, ← Nat.pow_add, Nat.sub_add_cancel hbL]⟩
    have hs3 : s3 + 1 ≤ w := by
      rcases Nat.lt_or_ge s3 w with h3 | h3
      · exact h3
      · have := Nat.mul_le_mul_right bb h3
        omega
    have hs4 := Nat.mul_le_mul_right bb hs3
    rw [Nat.add_mul, Nat.one_mul] at hs4
    refine ⟨d1, d2, s1 + s3 + 1, ?_, ?_, ?_⟩
    · rw [Nat.add_mul, Nat.add_mul, Nat.one_mul]
      omega
    · show σ4.n + 1 + pcnt σ.f ≤ σ.n + pcnt σ4.f + 2 * (s1 + s3 + 1)
      rw [r1] at c4
      omega
    · rw [mcnt_push, if_pos (show (mulS rh rp).mul = true from rfl)]
      show mcnt σ4.s σ4.n + 1 + pcnt σ.f = mcnt σ.s σ.n + pcnt σ4.f + (s1 + s3 + 1)
      rw [r1] at c5
      omega
end Go.Proofs.Ytmidpholmgmdpaa
