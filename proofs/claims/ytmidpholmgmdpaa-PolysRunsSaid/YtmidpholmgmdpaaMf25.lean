/- bits.Len at this program, by the library's contract: it returns how many bits a number has. -/
/- What the maker's form makes of a state: the relation, and its bounds. -/
import Derived.Shelf.Small.Bits
import Derived.Test.YtmidpholmgmdpaaPow
import Derived.Test.YtmidpholmgmdpaaMr25
namespace Go.Proofs.Ytmidpholmgmdpaa
open Go.RowKit
open Go.Shelf
def lays125_ren : Go.Shelf.Ren := ⟨fun | 125 => 40 | 128 => 62 | 129 => 63 | n => n, fun | 46 => 61 | 3 => 3 | 51 => 22 | 53 => 82 | 4 => 4 | 5 => 5 | 9 => 9 | n => n, fun | n => n⟩
theorem lays125 : Go.Proofs.Lays.n125 Try.prog lays125_ren := {
  mixed := by kernel_rfl
  f125 := Try.func40.trans (congrArg some (by kernel_rfl))
  f128 := Try.func62.trans (congrArg some (by kernel_rfl))
  f129 := Try.func63.trans (congrArg some (by kernel_rfl))
  t3 := Try.underlying3
  a3 := Try.isAgg3
  z3 := Try.sizeOf3
  v3 := Try.zeroValue3
  t4 := Try.underlying4
  a4 := Try.isAgg4
  z4 := Try.sizeOf4
  v4 := Try.zeroValue4
  t5 := Try.underlying5
  a5 := Try.isAgg5
  z5 := Try.sizeOf5
  v5 := Try.zeroValue5
  t9 := Try.underlying9
  a9 := Try.isAgg9
  z9 := Try.sizeOf9
  v9 := Try.zeroValue9
  t46 := Try.underlying61
  a46 := Try.isAgg61
  z46 := Try.sizeOf61
  v46 := Try.zeroValue61
  t51 := Try.underlying22
  a51 := Try.isAgg22
  z51 := Try.sizeOf22
  v51 := Try.zeroValue22
  t53 := Try.underlying82
  a53 := Try.isAgg82
  z53 := Try.sizeOf82
  v53 := Try.zeroValue82 }
theorem bitsLen_any (x : Nat) (w : World) (h : x ≤ 1000000) : Calls Try.prog 40 #[.int .u64 (x : Int)] w (RetP w (.int .i64 ((Lib.bitLen x : Nat) : Int))) :=
  (Any.bits_Len lays125 (x : Int) w (by omega) (by omega)).mono fun e w' h2 => ⟨h2.1, h2.2.symm⟩
end Go.Proofs.Ytmidpholmgmdpaa

namespace Go.Proofs.Ytmidpholmgmdpaa
open Go.RowKit
open Go.Maps (Keyed)
set_option linter.unusedVariables false

/-- the registers of the powers are registers; the first power is the first register -/
def MSt.Ok (σ : MSt) : Prop := σ.f 1 = some 0 ∧ ∀ k r, σ.f k = some r → 0 ≤ r ∧ r ≤ σ.n
theorem PowR.ok {σ σ' : MSt} {k : Nat} {r : Int} (h : PowR σ k σ' r) (hk : 1 ≤ k) (h1 : σ.Ok) : σ'.Ok ∧ 0 ≤ r ∧ r ≤ σ'.n := by
  induction h with
  | hit h => exact ⟨h1, h1.2 _ _ h⟩
  | @mk σ σ1 σ2 k a b h _ _ ih1 ih2 =>
    have hk1 : k ≠ 1 := fun e => by rw [e, h1.1] at h; cases h
    obtain ⟨a1, _, _⟩ := ih1 (by omega) h1
    obtain ⟨b1, _, _⟩ := ih2 (by omega) a1
    refine ⟨⟨(upd_other _ _ (fun e => hk1 e.symm)).trans b1.1, fun k' r' h' => ?_⟩, by omega, by show (σ2.n : Int) + 1 ≤ ((σ2.n + 1 : Nat) : Int); omega⟩
    show 0 ≤ r' ∧ r' ≤ ((σ2.n + 1 : Nat) : Int)
    by_cases e : k' = k
    · subst e
      have h2 : some ((σ2.n : Int) + 1) = some r' := (upd_same σ2.f k' _).symm.trans h'
      injection h2 with h2
      omega
    · have := b1.2 k' r' ((upd_other σ2.f (some ((σ2.n : Int) + 1)) e).symm.trans h')
      omega
theorem RegR.ok {σ σ' : MSt} {first r : Int} {f : Nat → Option Int} (h : RegR σ first f σ' r) (h1 : σ.Ok) (hf : ∀ j, f j ≠ none → j ≤ σ.n) : σ'.Ok ∧ 0 ≤ r ∧ r ≤ σ'.n ∧ σ'.n ≤ σ.n + 1 ∧ σ.n ≤ σ'.n ∧ σ'.N = σ.N := by
  cases h with
  | one h h2 => exact ⟨h1, by omega, by have := hf _ (by rw [h]; exact fun e => by cases e); omega, by omega, Nat.le_refl _, rfl⟩
  | mk _ _ _ _ _ _ _ =>
    refine ⟨⟨h1.1, fun k r h => ?_⟩, by omega, by show (σ.n : Int) + 1 ≤ ((σ.n + 1 : Nat) : Int); omega, Nat.le_refl _, by show σ.n ≤ σ.n + 1; omega, rfl⟩
    have := h1.2 k r h
    show 0 ≤ r ∧ r ≤ ((σ.n + 1 : Nat) : Int)
    omega
/-- the powers of the first i elements -/
inductive PowsR (c : Nat → Int) : MSt → Nat → MSt → Int → (Nat → Option Int) → Prop
  | nil {σ : MSt} : PowsR c σ 0 σ 0 (fun _ => none)
  | head {σ σ' : MSt} {a : Int} {f : Nat → Option Int} (h : PowsR c σ 0 σ' a f) : PowsR c σ 1 σ' (c 0) f
  | skip {σ σ' : MSt} {i : Nat} {a : Int} {f : Nat → Option Int} (h : PowsR c σ i σ' a f) (hi : 0 < i) (hc : c i = 0) : PowsR c σ (i + 1) σ' a f
  | pow {σ σ1 σ2 : MSt} {i R : Nat} {a : Int} {f : Nat → Option Int} (h : PowsR c σ i σ1 a f) (hi : 0 < i) (hc : c i ≠ 0) (h2 : PowR σ1 i σ2 (R : Int)) : PowsR c σ (i + 1) σ2 a (upd f R (some (c i)))
theorem PowsR.facts {c : Nat → Int} {σ σ' : MSt} {i : Nat} {a : Int} {f : Nat → Option Int} (h : PowsR c σ i σ' a f) (h1 : σ.Ok) : σ'.Ok ∧ σ.n ≤ σ'.n ∧ σ'.n ≤ σ.n + i * i ∧ σ'.N ≤ σ.N + i * i ∧ ∀ j, f j ≠ none → j ≤ σ'.n := by
  induction h with
  | nil => exact ⟨h1, Nat.le_refl _, by omega, by omega, fun j hj => absurd rfl hj⟩
  | head h ih =>
    obtain ⟨a1, a2, a3, a4, a5⟩ := ih
    exact ⟨a1, a2, by omega, by omega, a5⟩
  | @skip σ' i a f h hi hc ih =>
    obtain ⟨a1, a2, a3, a4, a5⟩ := ih
    have : (i + 1) * (i + 1) = i * i + 2 * i + 1 := by rw [Nat.add_mul, Nat.mul_add]; omega
    exact ⟨a1, a2, by omega, by omega, a5⟩
  | @pow σ1 σ2 i R a f h hi hc h2 ih =>
    obtain ⟨a1, a2, a3, a4, a5⟩ := ih
    obtain ⟨b1, b2, b3⟩ := h2.ok hi a1
    obtain ⟨_, c2, c3, c4⟩ := h2.facts hi a1.1
    have : (i + 1) * (i + 1) = i * i + 2 * i + 1 := by rw [Nat.add_mul, Nat.mul_add]; omega
    refine ⟨b1, by omega, by omega, by omega, fun j hj => ?_⟩
    by_cases e : j = R
    · omega
    · rw [upd_other _ _ e] at hj
      have := a5 j hj
      omega
/-- the first half, and the last half of a row -/
def lowF (h : Nat) (c : Nat → Int) : Nat → Int := fun j => if j < h then c j else 0
def highF (h : Nat) (c : Nat → Int) : Nat → Int := fun j => c (h + j)
def halfOf (m : Nat) : Nat := 2 ^ (Lib.bitLen (m - 2) - 1)
inductive FormR (bb : Nat) : MSt → Nat → (Nat → Int) → MSt → Int → (Nat → Option Int) → Prop
  | trim {σ σ' : MSt} {m : Nat} {c : Nat → Int} {a : Int} {f : Nat → Option Int} (h : FormR bb σ m c σ' a f) (hc : c m = 0) : FormR bb σ (m + 1) c σ' a f
  | base {σ σ' : MSt} {m : Nat} {c : Nat → Int} {a : Int} {f : Nat → Option Int} (hm : m ≤ bb + 1) (h : PowsR c σ m σ' a f) : FormR bb σ m c σ' a f
  | split {σ σ1 σ2 σ3 σ4 : MSt} {m h : Nat} {c : Nat → Int} {a1 a2 rh rp : Int} {f1 f2 : Nat → Option Int} (hm : bb + 1 < m) (hc : c (m - 1) ≠ 0) (hh : halfOf m = h) (h1 : FormR bb σ (m - h) (highF h c) σ1 a1 f1) (h2 : RegR σ1 a1 f1 σ2 rh)
      (h3 : FormR bb σ2 h (lowF h c) σ3 a2 f2) (h4 : PowR σ3 h σ4 rp) : FormR bb σ m c (σ4.push (mulS rh rp)) a2 (upd f2 (σ4.n + 1) (some 1))
theorem bitLenAux_le (k x : Nat) : Lib.bitLenAux k x ≤ k := by
  induction k generalizing x with
  | zero => exact Nat.le_refl _
  | succ k ih =>
    unfold Lib.bitLenAux
    split
    · omega
    · have := ih (x / 2); omega
theorem bitLenAux_pow (k x : Nat) (hx : 0 < x) (hk : x < 2 ^ k) : 0 < Lib.bitLenAux k x ∧ 2 ^ (Lib.bitLenAux k x - 1) ≤ x ∧ x < 2 ^ Lib.bitLenAux k x := by
  induction k generalizing x with
  | zero => simp at hk; omega
  | succ k ih =>
    unfold Lib.bitLenAux
    rw [if_neg (by omega)]
    by_cases h : x / 2 = 0
    · have e : Lib.bitLenAux k (x / 2) = 0 := by
        rw [h]
        cases k <;> rfl
      rw [e]
      simp
      omega
    · obtain ⟨i1, i2, i3⟩ := ih (x / 2) (by omega) (by rw [Nat.pow_succ] at hk; omega)
      obtain ⟨q, hq⟩ : ∃ q, Lib.bitLenAux k (x / 2) = q + 1 := ⟨Lib.bitLenAux k (x / 2) - 1, by omega⟩
      rw [hq] at i2 i3 ⊢
      refine ⟨by omega, ?_, ?_⟩
      · rw [show 1 + (q + 1) - 1 = q + 1 from by omega, Nat.pow_succ]
        rw [show q + 1 - 1 = q from by omega] at i2
        omega
      · rw [show 1 + (q + 1) = (q + 1) + 1 from by omega, Nat.pow_succ]
        omega
theorem bitLen_pow {x : Nat} (hx : 0 < x) (hk : x < 18446744073709551616) : 0 < Lib.bitLen x ∧ 2 ^ (Lib.bitLen x - 1) ≤ x ∧ x < 2 ^ Lib.bitLen x := bitLenAux_pow 64 x hx hk
theorem halfOf_lt {m : Nat} (h : 3 ≤ m) (h2 : m ≤ 1000000) : 1 ≤ halfOf m ∧ halfOf m + 2 ≤ m ∧ m < 2 * halfOf m + 2 := by
  obtain ⟨a, b, c⟩ := bitLen_pow (x := m - 2) (by omega) (by omega)
  unfold halfOf
  obtain ⟨q, hq⟩ : ∃ q, Lib.bitLen (m - 2) = q + 1 := ⟨Lib.bitLen (m - 2) - 1, by omega⟩
  rw [hq] at b c ⊢
  rw [show q + 1 - 1 = q from by omega] at b ⊢
  rw [Nat.pow_succ] at c
  have := Nat.one_le_two_pow (n := q)
  omega
theorem sq_split {m h : Nat} (h1 : 1 ≤ h) (h2 : h < m) : 2 * ((m - h) * (m - h)) + 2 * (h * h) + h + 1 ≤ 2 * (m * m) := by
  obtain ⟨k, rfl⟩ : ∃ k, m = h + k := ⟨m - h, by omega⟩
  have e : (h + k) * (h + k) = h * h + 2 * (h * k) + k * k := by
    rw [Nat.add_mul, Nat.mul_add, Nat.mul_add, Nat.mul_comm k h]; omega
  have : h * 1 ≤ h * k := Nat.mul_le_mul_left h (by omega)
  rw [show h + k - h = k from by omega, e]
  omega
theorem FormR.facts {bb : Nat} {σ σ' : MSt} {m : Nat} {c : Nat → Int} {a : Int} {f : Nat → Option Int} (h : FormR bb σ m c σ' a f) (hbb : 1 ≤ bb) (hm : m ≤ 1000000) (h1 : σ.Ok) :
    σ'.Ok ∧ σ.n ≤ σ'.n ∧ σ'.n ≤ σ.n + 2 * (m * m) ∧ σ'.N ≤ σ.N + 2 * (m * m) ∧ ∀ j, f j ≠ none → j ≤ σ'.n := by
  induction h with
  | @trim σ σ' m c a f h hc ih =>
    obtain ⟨a1, a2, a3, a4, a5⟩ := ih (by omega) h1
    have : (m + 1) * (m + 1) = m * m + 2 * m + 1 := by rw [Nat.add_mul, Nat.mul_add]; omega
    exact ⟨a1, a2, by omega, by omega, a5⟩
  | base hm h =>
    obtain ⟨a1, a2, a3, a4, a5⟩ := h.facts h1
    exact ⟨a1, a2, by omega, by omega, a5⟩
  | @split σ σ1 σ2 σ3 σ4 m h c b1 b2 rh rp f1 f2 hm2 hc hh _ h2 _ h4 ih1 ih3 =>
    have hh2 := halfOf_lt (m := m) (by omega) hm
    rw [hh] at hh2
    obtain ⟨a1, a2, a3, a4, a5⟩ := ih1 (by omega) h1
    obtain ⟨r1, r2, r3, r4, r5, r6⟩ := h2.ok a1 a5
    obtain ⟨c1, c2, c3, c4, c5⟩ := ih3 (by omega) r1
    obtain ⟨d1, d2, d3⟩ := h4.ok (by omega) c1
    obtain ⟨_, e2, e3, e4⟩ := h4.facts (by omega) c1.1
    have hs := sq_split (m := m) (h := h) (by omega) (by omega)
    refine ⟨⟨d1.1, fun k r hk => ?_⟩, ?_, ?_, ?_, fun j hj => ?_⟩
    · have := d1.2 k r hk
      show 0 ≤ r ∧ r ≤ ((σ4.n + 1 : Nat) : Int)
      omega
    · show σ.n ≤ σ4.n + 1
      omega
    · show σ4.n + 1 ≤ _
      omega
    · show σ4.N ≤ _
      omega
    · show j ≤ σ4.n + 1
      by_cases e : j = σ4.n + 1
      · omega
      · rw [upd_other _ _ e] at hj
        have := c5 j hj
        omega
end Go.Proofs.Ytmidpholmgmdpaa
