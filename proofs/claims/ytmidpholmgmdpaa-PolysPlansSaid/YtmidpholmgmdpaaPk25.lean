/- The plain law of Make, put together. No program in sight. -/
import Derived.Test.YtmidpholmgmdpaaPc25
import Derived.Test.YtmidpholmgmdpaaPv25
namespace Go.Proofs.Ytmidpholmgmdpaa
open Go.RowKit
set_option linter.unusedVariables false

theorem sta0_gd (t : Nat) : Gd t sta0 :=
  ⟨fun i hi => absurd hi (Nat.not_lt_zero i), rfl, fun k r h => by
    by_cases e : k = 1
    · subst e
      have h2 : some (0 : Int) = some r := (upd_same (fun _ => none) 1 _).symm.trans h
      injection h2 with h2
      refine ⟨0, h2.symm, Nat.le_refl _, rfl, fun e _ => ?_⟩
      show (0 : Int) ≤ (e : Int)
      omega
    · have h2 : (none : Option Int) = some r := (upd_other (fun _ => none) (some 0) e).symm.trans h
      cases h2⟩
theorem sta0_key (bb E : Nat) (h : 1 ≤ bb) : KeyIn bb E sta0 := fun k hk => by
  by_cases e : k = 1
  · subst e; exact inK_iff.2 ⟨Nat.le_refl _, .inl h⟩
  · exact absurd (upd_other (fun _ => none) (some 0) e) hk
theorem sta0_pcnt : pcnt sta0.f = 1 := by decide +kernel
/-- how many halvings: the least k with 2^k of at least d -/
def kk (m : Nat) : Nat := Lib.bitLen (m - 2)
theorem kk_law {m : Nat} (hm : m ≤ 256) : m - 1 ≤ 2 ^ kk m ∧ (kk m = 0 ∨ 2 ^ (kk m - 1) < m - 1) ∧ kk m ≤ 8 := by
  unfold kk
  by_cases h : m - 2 = 0
  · rw [h]
    have e : Lib.bitLen 0 = 0 := by decide
    rw [e]
    exact ⟨by show m - 1 ≤ 1; omega, .inl rfl, by omega⟩
  · obtain ⟨h1, h2, h3⟩ := bitLen_pow (x := m - 2) (by omega) (by omega)
    refine ⟨by omega, .inr (by omega), ?_⟩
    rcases Nat.lt_or_ge 8 (Lib.bitLen (m - 2)) with h4 | h4
    · have := Nat.pow_le_pow_right (show 0 < 2 by omega) (show 8 ≤ Lib.bitLen (m - 2) - 1 by omega)
      omega
    · exact h4
theorem kcnt_all : (List.range 9).all (fun k => decide (sumN (fun j => if inK (2 ^ ((k + 1) / 2)) (k - 1) j = true then 1 else 0) 257 + (k + 1) / 2 ≤ 2 ^ ((k + 1) / 2) + k)) = true := by decide +kernel
theorem pcnt_le {σ : MSt} {k : Nat} (hk : k ≤ 8) (h : KeyIn (2 ^ ((k + 1) / 2)) (k - 1) σ) : pcnt σ.f + (k + 1) / 2 ≤ 2 ^ ((k + 1) / 2) + k := by
  have h1 := List.all_eq_true.1 kcnt_all k (List.mem_range.2 (by omega))
  have h2 := of_decide_eq_true h1
  have h3 : pcnt σ.f ≤ sumN (fun j => if inK (2 ^ ((k + 1) / 2)) (k - 1) j = true then 1 else 0) 257 := sumN_mono' 257 fun i _ => by
    cases hf : σ.f i with
    | none => exact Nat.zero_le _
    | some v =>
      rw [if_pos (h i (by rw [hf]; exact fun e => by cases e))]
      exact Nat.le_refl _
  omega
theorem copy_ok {t n r : Nat} (ht : 3 ≤ t) (hr : r ≤ n) : stepOk t (n + 1) (copyS r) := by
  unfold stepOk
  rw [if_neg (show ¬ (copyS r).mul = true from Bool.false_ne_true)]
  refine ⟨rfl, rfl, by show r + 1 ≤ n + 1; omega, balB_yes.2 ⟨by show _ ≤ (0 : Int); omega, by show (0 : Int) ≤ _; omega⟩, fun j _ => ?_⟩
  show balB t (if j = r then 1 else 0) = true
  split
  · exact balB_yes.2 ⟨by omega, by omega⟩
  · exact balB_yes.2 ⟨by omega, by omega⟩
/-- what Make makes -/
structure MkLaw (t m : Nat) (a : Nat → Int) (σ : MSt) : Prop where
  ok : PlnOk t σ.n σ.s
  pos : 0 < σ.n
  le : σ.n ≤ 600
  pl : plD σ.s σ.n = a
  dep : ∀ e : Nat, m - 1 ≤ 2 ^ e → depD σ.s σ.n ≤ e
  cnt : ∃ sp : Nat, sp * 2 ^ ((kk m + 1) / 2) ≤ m - 2 ∧ mcnt σ.s σ.n + 1 + (kk m + 1) / 2 ≤ 2 ^ ((kk m + 1) / 2) + kk m + sp
theorem MakeR.law {t m : Nat} {a : Nat → Int} {σ : MSt} (h : MakeR m a σ) (ht : 3 ≤ t) (hm : m ≤ 256) (hz : ∀ j, m ≤ j → a j = 0) (hok : PolyOk t m a) : MkLaw t m a σ := by
  obtain ⟨k1, k2, k3⟩ := kk_law hm
  have hbal : ∀ j, balB t (a j) = true := fun j => by
    rcases Nat.lt_or_ge j m with h | h
    · exact hok.1 j h
    · rw [hz j h]; exact balB_yes.2 ⟨by omega, by omega⟩
  have hbb : babyOf m = 2 ^ ((kk m + 1) / 2) := rfl
  have hb1 := babyOf_bound hm
  rw [hbb] at hb1
  have hE : m - 1 ≤ 2 ^ (kk m - 1 + 1) := by
    by_cases h0 : kk m = 0
    · rw [h0] at k1 ⊢
      have : m - 1 ≤ 1 := k1
      show m - 1 ≤ 2
      omega
    · rw [Nat.sub_add_cancel (by omega)]; exact k1
  have core : ∀ {σ1 σ2 : MSt} {s : Int} {f : Nat → Option Int} {r : Nat}, FormR (babyOf m) sta0 m a σ1 s f → RegR σ1 s f σ2 (r : Int) → PlnOk t σ2.n σ2.s ∧ r ≤ σ2.n ∧ plD σ2.s r = a ∧ (∀ e : Nat, m - 1 ≤ 2 ^ e → depD σ2.s r ≤ e) ∧
      (∃ sp : Nat, sp * 2 ^ ((kk m + 1) / 2) ≤ m - 2 ∧ mcnt σ2.s σ2.n + 1 + (kk m + 1) / 2 ≤ 2 ^ ((kk m + 1) / 2) + kk m + sp ∧ σ2.n + (kk m + 1) / 2 ≤ 2 ^ ((kk m + 1) / 2) + kk m + 2 * sp) := fun {σ1 σ2 s f r} h1 h2 => by
    obtain ⟨a1, a2, a3, a4, a5, a6⟩ := h1.law (by rw [hbb]; omega) (by omega) ht (sta0_gd t) hbal hz
    obtain ⟨b1, b2, R, e, b3, b4, b5⟩ := h2.law ht a1 a3 a4
    obtain rfl : r = R := by omega
    rw [hbb] at h1
    obtain ⟨c1, c2, sp, c3, c4, c5⟩ := h1.count (E := kk m - 1) (by omega) hm hE rfl (sta0_key _ _ hb1.1)
    obtain ⟨d1, d2, d3⟩ := h2.count
    have hp := pcnt_le k3 c1
    rw [sta0_pcnt] at c4 c5
    have z1 : mcnt sta0.s sta0.n = 0 := rfl
    have z2 : sta0.n = 0 := rfl
    rw [z1] at c5
    rw [z2] at c4
    exact ⟨b1.ok, b3, by rw [b4, a5], fun e he => b5 e (a6 e he), sp, c3, by omega, by omega⟩
  cases h with
  | @last σ1 _ s f r h1 h2 h3 h4 =>
    obtain ⟨p1, p2, p3, p4, sp, p5, p6, p7⟩ := core h1 h2
    obtain rfl : r = σ.n := by omega
    have hsp : sp * 1 ≤ sp * 2 ^ ((kk m + 1) / 2) := Nat.mul_le_mul_left sp hb1.1
    exact ⟨p1, by omega, by omega, p3, p4, sp, p5, p6⟩
  | @copy σ1 σ2 s f r h1 h2 h3 =>
    obtain ⟨p1, p2, p3, p4, sp, p5, p6, p7⟩ := core h1 h2
    have hS := copy_ok (n := σ2.n) ht p2
    have hsp : sp * 1 ≤ sp * 2 ^ ((kk m + 1) / 2) := Nat.mul_le_mul_left sp hb1.1
    refine ⟨push_ok p1 hS, Nat.succ_pos _, by show σ2.n + 1 ≤ 600; omega, ?_, fun e he => ?_, sp, p5, ?_⟩
    · show plD (σ2.push (copyS r)).s (σ2.n + 1) = a
      rw [push_pl hS]
      funext q
      unfold plS
      rw [if_neg (show ¬ (copyS r).mul = true from Bool.false_ne_true), zsum_one (f := fun k => (copyS r).cs k * plD σ2.s k q) (j := r) (copyS r).n (Nat.lt_succ_self r) fun i _ hi => by
        show (if i = r then (1 : Int) else 0) * plD σ2.s i q = 0
        rw [if_neg hi, Int.zero_mul]]
      show (if q = 0 then (0 : Int) else 0) + (if r = r then (1 : Int) else 0) * plD σ2.s r q = a q
      rw [if_pos rfl, p3]
      split <;> omega
    · show depD (σ2.push (copyS r)).s (σ2.n + 1) ≤ e
      rw [push_dep hS]
      unfold dst
      rw [if_neg (show ¬ (copyS r).mul = true from Bool.false_ne_true)]
      refine mxs_le _ (by omega) fun k hk hc => ?_
      by_cases ek : k = r
      · rw [ek]; exact p4 e he
      · exact absurd (if_neg ek) hc
    · show mcnt (σ2.push (copyS r)).s (σ2.push (copyS r)).n + 1 + _ ≤ _
      rw [mcnt_push, if_neg (show ¬ (copyS r).mul = true from Bool.false_ne_true)]
      exact p6
/-- the value of a plan that Make made is that of the polynomial -/
theorem MkLaw.val {t m : Nat} {a : Nat → Int} {σ : MSt} (h : MkLaw t m a σ) (ht : 3 ≤ t) (ho : t % 2 = 1) (hz : ∀ j, m ≤ j → a j = 0) {x : Int} (hx : balB t x = true) : valD t x σ.s σ.n = valZ t a m x := by
  have e := (valD_ev (x := x) h.ok σ.n (Nat.le_refl _))
  rw [h.pl] at e
  exact (bal_of ho (e.at hz) (balB_yes.1 (valD_bal ho hx h.ok σ.n (Nat.le_refl _)))).symm
theorem MkLaw.chk {t m : Nat} {a : Nat → Int} {σ : MSt} (h : MkLaw t m a σ) (hm : modB t = true) : chkE t σ.n σ.s = 0 := by
  unfold chkE
  have := h.le
  rw [if_pos hm, if_neg (by omega), if_pos h.ok]
end Go.Proofs.Ytmidpholmgmdpaa
