/- The plain law of a plan's depth and of its run. -/
import Derived.Test.YtmidpholmgmdpaaC25
namespace Go.Proofs.Ytmidpholmgmdpaa
open Go.RowKit
set_option linter.unusedVariables false

/-- the largest of a number and of the rows' numbers where a constant is not zero -/
def mxs (f cs : Nat → Int) (d : Int) : Nat → Int
  | 0 => d
  | k + 1 => if cs k = 0 then mxs f cs d k else (if f k > mxs f cs d k then f k else mxs f cs d k)
/-- the depth of a step over the depths of the registers -/
def dst (f : Nat → Int) (S : PS) : Int := mxs f S.cs (if S.mul = true then 1 + (if f S.b.toNat > f S.a.toNat then f S.b.toNat else f S.a.toNat) else 0) S.n
/-- the first rows of a plan's depths -/
def depR (s : Nat → PS) : Nat → Nat → Int
  | 0 => fun _ => 0
  | i + 1 => fun j => if j = i + 1 then dst (depR s i) (s i) else depR s i j
/-- the depth of a register -/
def depD (s : Nat → PS) (j : Nat) : Int := depR s j j
theorem depR_D (s : Nat → PS) (i j : Nat) (h : j ≤ i) : depR s i j = depD s j := by
  induction i with
  | zero =>
    obtain rfl : j = 0 := by omega
    rfl
  | succ i ih =>
    by_cases hj : j = i + 1
    · subst hj; rfl
    · show (if j = i + 1 then dst (depR s i) (s i) else depR s i j) = _
      rw [if_neg hj, ih (by omega)]
theorem mxs_congr {f g cs : Nat → Int} {d : Int} (n : Nat) (h : ∀ j, j < n → f j = g j) : mxs f cs d n = mxs g cs d n := by
  induction n with
  | zero => rfl
  | succ n ih =>
    unfold mxs
    rw [ih fun j hj => h j (by omega), h n (by omega)]
theorem stepOk.regs {t i : Nat} {S : PS} (h : stepOk t (i + 1) S) : (S.mul = true → S.a.toNat ≤ i ∧ S.b.toNat ≤ i) ∧ S.n ≤ i + 1 := by
  unfold stepOk at h
  by_cases hm : S.mul = true
  · rw [if_pos hm] at h
    refine ⟨fun _ => ?_, ?_⟩ <;> omega
  · rw [if_neg hm] at h
    refine ⟨fun h2 => absurd h2 hm, h.2.2.1⟩
theorem dst_congr {t i : Nat} {S : PS} {f g : Nat → Int} (h : stepOk t (i + 1) S) (hf : ∀ j, j ≤ i → f j = g j) : dst f S = dst g S := by
  obtain ⟨h1, h2⟩ := h.regs
  unfold dst
  rw [mxs_congr S.n fun j hj => hf j (by omega)]
  by_cases hm : S.mul = true
  · obtain ⟨ha, hb⟩ := h1 hm
    rw [hf _ ha, hf _ hb]
  · rw [if_neg hm, if_neg hm]
theorem depD_zero (s : Nat → PS) : depD s 0 = 0 := rfl
theorem depD_succ {t i : Nat} {s : Nat → PS} (h : stepOk t (i + 1) (s i)) : depD s (i + 1) = dst (depD s) (s i) := by
  have h1 : depD s (i + 1) = dst (depR s i) (s i) := by
    show (if i + 1 = i + 1 then dst (depR s i) (s i) else depR s i (i + 1)) = _
    rw [if_pos rfl]
  rw [h1]
  exact dst_congr h fun j hj => depR_D s i j hj
theorem mxs_bound {f cs : Nat → Int} {d m : Int} (n : Nat) (hd : 0 ≤ d ∧ d ≤ m) (h : ∀ j, j < n → 0 ≤ f j ∧ f j ≤ m) : 0 ≤ mxs f cs d n ∧ mxs f cs d n ≤ m := by
  induction n with
  | zero => exact hd
  | succ n ih =>
    have h1 := ih fun j hj => h j (by omega)
    have h2 := h n (by omega)
    unfold mxs
    split
    · exact h1
    · split
      · exact h2
      · exact h1
theorem depD_bound {t n : Nat} {s : Nat → PS} (h : PlnOk t n s) (i : Nat) (hi : i ≤ n) : 0 ≤ depD s i ∧ depD s i ≤ i := by
  induction i using Nat.strongRecOn with
  | _ i ih =>
    rcases i with _ | i
    · exact ⟨Int.le_refl _, Int.le_refl _⟩
    · have hs := h i (by omega)
      rw [depD_succ hs]
      obtain ⟨h1, h2⟩ := hs.regs
      unfold dst
      refine mxs_bound _ ?_ fun j hj => ?_
      · by_cases hm : (s i).mul = true
        · obtain ⟨ha, hb⟩ := h1 hm
          have i1 := ih (s i).a.toNat (by omega) (by omega)
          have i2 := ih (s i).b.toNat (by omega) (by omega)
          rw [if_pos hm]
          split <;> omega
        · rw [if_neg hm]
          omega
      · have := ih j (by omega) (by omega)
        omega
open Classical in
/-- what Depth answers -/
noncomputable def depV (t n : Nat) (s : Nat → PS) : Int := if chkE t n s = 0 then depD s n else 0
theorem chkE_ok {t n : Nat} {s : Nat → PS} (h : chkE t n s = 0) : modB t = true ∧ n ≤ 600 ∧ PlnOk t n s := by
  unfold chkE at h
  by_cases hm : modB t = true
  · rw [if_pos hm] at h
    by_cases hb : 600 < n
    · rw [if_pos hb] at h; cases h
    · rw [if_neg hb] at h
      by_cases hp : PlnOk t n s
      · exact ⟨hm, by omega, hp⟩
      · rw [if_neg hp] at h; cases h
  · rw [if_neg hm] at h; cases h
/-- two numbers returned -/
def RetDp (w : World) (v E : Int) (e : Ending) (w' : World) : Prop := e = .returned (.tuple #[.int .i64 v, .int .i64 E]) ∧ Below w.heap.size w w'

/-- the value of a step over the values of the registers -/
def vss (t : Nat) (f cs : Nat → Int) (v : Int) : Nat → Int
  | 0 => v
  | k + 1 => bal t (vss t f cs v k + cs k * f k)
def vst (t : Nat) (f : Nat → Int) (S : PS) : Int := vss t f S.cs (if S.mul = true then bal t (f S.a.toNat * f S.b.toNat) else S.first) S.n
def valR (t : Nat) (x : Int) (s : Nat → PS) : Nat → Nat → Int
  | 0 => Z.oneF x
  | i + 1 => fun j => if j = i + 1 then vst t (valR t x s i) (s i) else valR t x s i j
/-- the value of a register -/
def valD (t : Nat) (x : Int) (s : Nat → PS) (j : Nat) : Int := valR t x s j j
theorem valR_D (t : Nat) (x : Int) (s : Nat → PS) (i j : Nat) (h : j ≤ i) : valR t x s i j = valD t x s j := by
  induction i with
  | zero =>
    obtain rfl : j = 0 := by omega
    rfl
  | succ i ih =>
    by_cases hj : j = i + 1
    · subst hj; rfl
    · show (if j = i + 1 then vst t (valR t x s i) (s i) else valR t x s i j) = _
      rw [if_neg hj, ih (by omega)]
theorem vss_congr {t : Nat} {f g cs : Nat → Int} {d : Int} (n : Nat) (h : ∀ j, j < n → f j = g j) : vss t f cs d n = vss t g cs d n := by
  induction n with
  | zero => rfl
  | succ n ih =>
    unfold vss
    rw [ih fun j hj => h j (by omega), h n (by omega)]
theorem vst_congr {t i : Nat} {S : PS} {f g : Nat → Int} (h : stepOk t (i + 1) S) (hf : ∀ j, j ≤ i → f j = g j) : vst t f S = vst t g S := by
  obtain ⟨h1, h2⟩ := h.regs
  unfold vst
  rw [vss_congr S.n fun j hj => hf j (by omega)]
  by_cases hm : S.mul = true
  · obtain ⟨ha, hb⟩ := h1 hm
    rw [hf _ ha, hf _ hb]
  · rw [if_neg hm, if_neg hm]
theorem valD_zero (t : Nat) (x : Int) (s : Nat → PS) : valD t x s 0 = x := rfl
theorem valD_succ {t i : Nat} {x : Int} {s : Nat → PS} (h : stepOk t (i + 1) (s i)) : valD t x s (i + 1) = vst t (valD t x s) (s i) := by
  have h1 : valD t x s (i + 1) = vst t (valR t x s i) (s i) := by
    show (if i + 1 = i + 1 then vst t (valR t x s i) (s i) else valR t x s i (i + 1)) = _
    rw [if_pos rfl]
  rw [h1]
  exact vst_congr h fun j hj => valR_D t x s i j hj
theorem vss_bal {t : Nat} {f cs : Nat → Int} {v : Int} (ho : t % 2 = 1) (n : Nat) (hv : balB t v = true) : balB t (vss t f cs v n) = true := by
  cases n with
  | zero => exact hv
  | succ n => exact balB_yes.2 (bal_bound ho _)
theorem valD_bal {t n : Nat} {x : Int} {s : Nat → PS} (ho : t % 2 = 1) (hx : balB t x = true) (h : PlnOk t n s) (i : Nat) (hi : i ≤ n) : balB t (valD t x s i) = true := by
  rcases i with _ | i
  · exact hx
  · have hs := h i (by omega)
    rw [valD_succ hs]
    unfold vst
    refine vss_bal ho _ ?_
    by_cases hm : (s i).mul = true
    · rw [if_pos hm]
      exact balB_yes.2 (bal_bound ho _)
    · rw [if_neg hm]
      unfold stepOk at hs
      rw [if_neg hm] at hs
      exact hs.2.2.2.1
open Classical in
/-- what Run answers: the error -/
noncomputable def runE (t n : Nat) (s : Nat → PS) (x : Int) : Int := if chkE t n s = 0 then (if balB t x = true then 0 else 2) else chkE t n s
open Classical in
/-- what Run answers: the value -/
noncomputable def runV (t n : Nat) (s : Nat → PS) (x : Int) : Int := if chkE t n s = 0 ∧ balB t x = true then valD t x s n else 0
/-- the reference's sum -/
def rss (t : Nat) (f cs : Nat → Int) (v : Int) : Nat → Int
  | 0 => v
  | k + 1 => (rss t f cs v k + cs k * f k).tmod t
theorem tmod_cg (t : Nat) (z : Int) : Cg t (z.tmod t) z := by
  refine ⟨-(z.tdiv t), ?_⟩
  have := Int.tmod_add_mul_tdiv z t
  have e : (t : Int) * -(z.tdiv t) = -((t : Int) * z.tdiv t) := by rw [Int.mul_neg]
  omega
theorem rss_cg {t : Nat} {f cs : Nat → Int} {v : Int} (n : Nat) : Cg t (rss t f cs v n) (vss t f cs v n) := by
  induction n with
  | zero => exact Cg.refl t _
  | succ n ih => exact (tmod_cg t _).trans ((ih.add (Cg.refl t _)).trans (bal_cg t _).symm)
theorem rss_bound {t : Nat} {f cs : Nat → Int} {v : Int} (ht : 3 ≤ t) (hv : balB t v = true) (n : Nat) : -(t : Int) < rss t f cs v n ∧ rss t f cs v n < t := by
  cases n with
  | zero =>
    have := balB_yes.1 hv
    unfold rss
    omega
  | succ n =>
    unfold rss
    refine ⟨?_, Int.tmod_lt_of_pos _ (by omega)⟩
    have h1 := tm_fact (rss t f cs v n + cs n * f n) (m := t) (by omega)
    obtain ⟨a, ha, a1, a2, a3⟩ := h1
    rw [ha]
    omega
end Go.Proofs.Ytmidpholmgmdpaa
