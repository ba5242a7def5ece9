/- The contracts of the small functions of modular and of its reference: sums, differences, products, powers, residues, balanced values. -/
import Derived.Test.YtigefhlgkmfgmaaFits
import Derived.Test.YtigefhlgkmfgmaaPow
import Derived.Test.YtigefhlgkmfgmaaROrder
namespace Go.Proofs.Ytigefhlgkmfgmaa
open Go.RowKit
set_option linter.unusedVariables false

/-- a call that returns a number and an error -/
def RetNE (w : World) (p : Nat × Nat) (e : Ending) (w' : World) : Prop := e = .returned (.tuple #[.int .u32 (p.1 : Int), .int .i64 (p.2 : Int)]) ∧ Below w.heap.size w w'
def RetIE (w : World) (p : Int × Nat) (e : Ending) (w' : World) : Prop := e = .returned (.tuple #[.int .i64 p.1, .int .i64 (p.2 : Int)]) ∧ Below w.heap.size w w'
theorem RetNE.mk {w w' : World} {p : Nat × Nat} {x E : Int} (h1 : x = (p.1 : Int)) (h2 : E = (p.2 : Int)) (hb : Below w.heap.size w w') : RetNE w p (.returned (.tuple #[.int .u32 x, .int .i64 E])) w' := ⟨by rw [h1, h2], hb⟩
theorem RetIE.mk {w w' : World} {p : Int × Nat} {x E : Int} (h1 : x = p.1) (h2 : E = (p.2 : Int)) (hb : Below w.heap.size w w') : RetIE w p (.returned (.tuple #[.int .i64 x, .int .i64 E])) w' := ⟨by rw [h1, h2], hb⟩

def Mok (n : Nat) : Prop := 2 ≤ n ∧ n ≤ 2147483647
def Res2 (a b n : Nat) : Prop := Mok n ∧ a < n ∧ b < n
instance (n : Nat) : Decidable (Mok n) := by unfold Mok; infer_instance
instance (a b n : Nat) : Decidable (Res2 a b n) := by unfold Res2; infer_instance
def addP (a b n : Nat) : Nat × Nat := if Res2 a b n then ((a + b) % n, 0) else (0, 2)
def subP (a b n : Nat) : Nat × Nat := if Res2 a b n then ((a + n - b) % n, 0) else (0, 2)
def mulP (a b n : Nat) : Nat × Nat := if Res2 a b n then (a * b % n, 0) else (0, 2)
def powP (a k n : Nat) : Nat × Nat := if Mok n ∧ a < n then (a ^ k % n, 0) else (0, 2)
def ofP (v : Int) (n : Nat) : Nat × Nat := if Mok n then ((v % (n : Int)).toNat, 0) else (0, 2)
def balP (a n : Nat) : Int × Nat := if Mok n ∧ a < n then ((if n < 2 * a then (a : Int) - n else a), 0) else (0, 2)

def twoF (x y : Nat) : Nat → Nat := fun j => if j = 0 then x else if j = 1 then y else 0
theorem sq_two {w : World} {e lo hi x y : Nat} (hl : lo ≤ w.heap.size) (hh : w.heap.size < hi) : Sq .u32 (w.alloc (.cells #[.int .u32 (x : Int), .int .u32 (y : Int)] e)) lo hi (some ⟨w.heap.size, 0, none⟩) 2 (twoF x y) :=
  sq_new (twoF x y) hl hh (fun j hj => by unfold twoF; rw [if_neg (by omega), if_neg (by omega)]) fun j hj => by
    match j, hj with
    | 0, _ => rfl
    | 1, _ => rfl
theorem fits_two {a b n : Nat} : fitsB n 2 (twoF a b) = true ↔ Res2 a b n := by
  unfold fitsB twoF Res2 Mok
  simp [List.range_succ]
  omega
theorem fits_two_no {a b n : Nat} (h : ¬ Res2 a b n) : fitsB n 2 (twoF a b) = false := by
  cases hb : fitsB n 2 (twoF a b)
  · rfl
  · exact absurd (fits_two.1 hb) h
theorem fits_one' {a n : Nat} : fitsB n 1 (oneF a) = true ↔ Mok n ∧ a < n := by
  rw [fits_one]
  unfold Mok
  omega
theorem fits_one_no {a n : Nat} (h : ¬ (Mok n ∧ a < n)) : fitsB n 1 (oneF a) = false := by
  cases hb : fitsB n 1 (oneF a)
  · rfl
  · exact absurd (fits_one'.1 hb) h
theorem fits_nil {n : Nat} : fitsB n 0 (fun _ => 0) = true ↔ Mok n := by
  unfold fitsB Mok
  simp
theorem fits_nil_no {n : Nat} (h : ¬ Mok n) : fitsB n 0 (fun _ => 0) = false := by
  cases hb : fitsB n 0 (fun _ => 0)
  · rfl
  · exact absurd (fits_nil.1 hb) h
/-- what fits says of two numbers laid down -/
theorem fits2_at (a b n : Nat) (w : World) : Calls Try.prog 40 #[.int .u32 n, .slice (some ⟨w.heap.size, 0, none⟩) 2 2] (w.alloc (.cells #[.int .u32 (a : Int), .int .u32 (b : Int)] 22)) (RetP (w.alloc (.cells #[.int .u32 (a : Int), .int .u32 (b : Int)] 22)) (.bool (fitsB n 2 (twoF a b)))) :=
  fits_any n 2 2 _ (twoF a b) _ 0 _ (sq_two (Nat.zero_le _) (Nat.lt_succ_self _)) (by omega)
theorem fits1_at (a n : Nat) (w : World) : Calls Try.prog 40 #[.int .u32 n, .slice (some ⟨w.heap.size, 0, none⟩) 1 1] (w.alloc (.cells #[.int .u32 (a : Int)] 22)) (RetP (w.alloc (.cells #[.int .u32 (a : Int)] 22)) (.bool (fitsB n 1 (oneF a)))) :=
  fits_any n 1 1 _ (oneF a) _ 0 _ (sq_one rfl (Nat.zero_le _) (Nat.lt_succ_self _)) (by omega)
theorem fits0_at (n : Nat) (w : World) : Calls Try.prog 40 #[.int .u32 n, .slice none 0 0] w (RetP w (.bool (fitsB n 0 (fun _ => 0)))) :=
  fits_any n 0 0 none (fun _ => 0) w 0 0 (Sq.nil _ _ _ _ _) (by omega)
theorem bel2 (w : World) (o : Obj) : Below w.heap.size w (w.alloc o) := (Below.refl _ w).alloc (Nat.le_refl _) o

set_option maxHeartbeats 400000 in
theorem madd_any (a b n : Nat) (w : World) (ha : a ≤ 4294967295) (hb : b ≤ 4294967295) (hn : n ≤ 4294967295) : Calls Try.prog 29 #[.int .u32 a, .int .u32 b, .int .u32 n] w (RetNE w (addP a b n)) := by
  have HF := Lib.hid (fits2_at a b n w)
  by_cases h : Res2 a b n
  · have hp : addP a b n = ((a + b) % n, 0) := if_pos h
    obtain ⟨⟨h1, h2⟩, h3, h4⟩ := h
    rw [fits_two.2 ⟨⟨h1, h2⟩, h3, h4⟩] at HF
    rw [hp]
    clear hp
    by_cases hs : n ≤ a + b
    · have q1 : decide ((a : Int) + (b : Int) ≥ (n : Int)) = true := decide_eq_true (by omega)
      have hm : (a + b) % n = a + b - n := by rw [Nat.mod_eq_sub_mod hs, Nat.mod_eq_of_lt (by omega)]
      rw [hm]
      go_enter Try.func29, Try.ntmps29
      go_wp2_with fail
      (with_reducible refine HF.out.mono ?_)
      rintro e w' ⟨rfl, hw'⟩
      subst hw'
      go_wp2_with fail
      go_ret2
      exact .mk (by simp; omega) rfl (bel2 _ _)
    · have q1 : decide ((a : Int) + (b : Int) ≥ (n : Int)) = false := decide_eq_false (by omega)
      rw [Nat.mod_eq_of_lt (show a + b < n by omega)]
      go_enter Try.func29, Try.ntmps29
      go_wp2_with fail
      (with_reducible refine HF.out.mono ?_)
      rintro e w' ⟨rfl, hw'⟩
      subst hw'
      go_wp2_with fail
      go_ret2
      exact .mk (by simp) rfl (bel2 _ _)
  · have hp : addP a b n = (0, 2) := if_neg h
    rw [fits_two_no h] at HF
    rw [hp]
    clear hp
    go_enter Try.func29, Try.ntmps29
    go_wp2_with fail
    (with_reducible refine HF.out.mono ?_)
    rintro e w' ⟨rfl, hw'⟩
    subst hw'
    go_wp2_with fail
    go_ret2
    exact .mk rfl rfl (bel2 _ _)

set_option maxHeartbeats 400000 in
theorem msub_any (a b n : Nat) (w : World) (ha : a ≤ 4294967295) (hb : b ≤ 4294967295) (hn : n ≤ 4294967295) : Calls Try.prog 31 #[.int .u32 a, .int .u32 b, .int .u32 n] w (RetNE w (subP a b n)) := by
  have HF := Lib.hid (fits2_at a b n w)
  by_cases h : Res2 a b n
  · have hp : subP a b n = ((a + n - b) % n, 0) := if_pos h
    obtain ⟨⟨h1, h2⟩, h3, h4⟩ := h
    rw [fits_two.2 ⟨⟨h1, h2⟩, h3, h4⟩] at HF
    rw [hp]
    clear hp
    by_cases hs : a < b
    · have q1 : decide ((a : Int) < (b : Int)) = true := decide_eq_true (by omega)
      rw [Nat.mod_eq_of_lt (show a + n - b < n by omega)]
      go_enter Try.func31, Try.ntmps31
      go_wp2_with fail
      (with_reducible refine HF.out.mono ?_)
      rintro e w' ⟨rfl, hw'⟩
      subst hw'
      go_wp2_with fail
      go_ret2
      exact .mk (by simp; omega) rfl (bel2 _ _)
    · have q1 : decide ((a : Int) < (b : Int)) = false := decide_eq_false (by omega)
      have hm : (a + n - b) % n = a - b := by rw [Nat.mod_eq_sub_mod (by omega), show a + n - b - n = a - b by omega, Nat.mod_eq_of_lt (by omega)]
      rw [hm]
      go_enter Try.func31, Try.ntmps31
      go_wp2_with fail
      (with_reducible refine HF.out.mono ?_)
      rintro e w' ⟨rfl, hw'⟩
      subst hw'
      go_wp2_with fail
      go_ret2
      exact .mk (by simp; omega) rfl (bel2 _ _)
  · have hp : subP a b n = (0, 2) := if_neg h
    rw [fits_two_no h] at HF
    rw [hp]
    clear hp
    go_enter Try.func31, Try.ntmps31
    go_wp2_with fail
    (with_reducible refine HF.out.mono ?_)
    rintro e w' ⟨rfl, hw'⟩
    subst hw'
    go_wp2_with fail
    go_ret2
    exact .mk rfl rfl (bel2 _ _)

set_option maxHeartbeats 400000 in
theorem mmul_any (a b n : Nat) (w : World) (ha : a ≤ 4294967295) (hb : b ≤ 4294967295) (hn : n ≤ 4294967295) : Calls Try.prog 33 #[.int .u32 a, .int .u32 b, .int .u32 n] w (RetNE w (mulP a b n)) := by
  have HF := Lib.hid (fits2_at a b n w)
  by_cases h : Res2 a b n
  · have hp : mulP a b n = (a * b % n, 0) := if_pos h
    obtain ⟨⟨h1, h2⟩, h3, h4⟩ := h
    rw [fits_two.2 ⟨⟨h1, h2⟩, h3, h4⟩] at HF
    rw [hp]
    obtain ⟨m1, m2⟩ := mul_lt_int32 ha hb
    have m3 : 0 ≤ (a : Int) * (b : Int) % (n : Int) := Int.emod_nonneg _ (by omega)
    have m4 : (a : Int) * (b : Int) % (n : Int) < (n : Int) := Int.emod_lt_of_pos _ (by omega)
    clear hp
    go_enter Try.func33, Try.ntmps33
    go_wp2_with fail
    (with_reducible refine HF.out.mono ?_)
    rintro e w' ⟨rfl, hw'⟩
    subst hw'
    go_wp2_with fail
    go_ret2
    exact .mk (by simp) rfl (bel2 _ _)
  · have hp : mulP a b n = (0, 2) := if_neg h
    rw [fits_two_no h] at HF
    rw [hp]
    clear hp
    go_enter Try.func33, Try.ntmps33
    go_wp2_with fail
    (with_reducible refine HF.out.mono ?_)
    rintro e w' ⟨rfl, hw'⟩
    subst hw'
    go_wp2_with fail
    go_ret2
    exact .mk rfl rfl (bel2 _ _)

set_option maxHeartbeats 400000 in
theorem mpow_any (a k n : Nat) (w : World) (ha : a ≤ 4294967295) (hk : k < 18446744073709551616) (hn : n ≤ 4294967295) : Calls Try.prog 17 #[.int .u32 a, .int .u64 k, .int .u32 n] w (RetNE w (powP a k n)) := by
  have HF := Lib.hid (fits1_at a n w)
  by_cases h : Mok n ∧ a < n
  · have hp : powP a k n = (a ^ k % n, 0) := if_pos h
    obtain ⟨⟨h1, h2⟩, h3⟩ := h
    rw [fits_one'.2 ⟨⟨h1, h2⟩, h3⟩] at HF
    rw [hp]
    obtain ⟨x, hx⟩ : ∃ x, a ^ k % n = x := ⟨_, rfl⟩
    have HP := Lib.hid (fun V => power_p a k n V ha hk h1 hn)
    rw [hx] at HP ⊢
    clear hp hx
    go_enter Try.func17, Try.ntmps17
    go_wp2_with fail
    (with_reducible refine HF.out.mono ?_)
    rintro e w' ⟨rfl, hw'⟩
    subst hw'
    go_wp2_with fail
    (with_reducible refine (HP.out _).mono ?_)
    rintro e w2 ⟨rfl, hb2⟩
    go_wp2_with fail
    go_ret2
    exact .mk rfl rfl ((bel2 w _).trans (hb2.mono (bel2 w _).size))
  · have hp : powP a k n = (0, 2) := if_neg h
    rw [fits_one_no h] at HF
    rw [hp]
    clear hp
    go_enter Try.func17, Try.ntmps17
    go_wp2_with fail
    (with_reducible refine HF.out.mono ?_)
    rintro e w' ⟨rfl, hw'⟩
    subst hw'
    go_wp2_with fail
    go_ret2
    exact .mk rfl rfl (bel2 _ _)

theorem tmod_neg_fix {v n : Int} (hn : 0 < n) (h : v.tmod n < 0) : v.tmod n + n = v % n := by
  have h1 := @Int.tmod_eq_emod v n
  have h2 := Int.emod_nonneg v (show n ≠ 0 by omega)
  split at h1 <;> omega
theorem tmod_pos_fix {v n : Int} (hn : 0 < n) (h : ¬ v.tmod n < 0) : v.tmod n = v % n := by
  have h1 := @Int.tmod_eq_emod v n
  have h2 := Int.emod_lt_of_pos v hn
  have h3 := Int.emod_nonneg v (show n ≠ 0 by omega)
  split at h1 <;> omega
set_option maxHeartbeats 400000 in
theorem mof_any (v : Int) (n : Nat) (w : World) (hv : -9223372036854775808 ≤ v) (hv2 : v ≤ 9223372036854775807) (hn : n ≤ 4294967295) : Calls Try.prog 23 #[.int .i64 v, .int .u32 n] w (RetNE w (ofP v n)) := by
  have HF := Lib.hid (fits0_at n w)
  by_cases h : Mok n
  · have hp : ofP v n = ((v % (n : Int)).toNat, 0) := if_pos h
    rw [fits_nil.2 h] at HF
    obtain ⟨h1, h2⟩ := h
    rw [hp]
    have m3 := Int.emod_nonneg v (show (n : Int) ≠ 0 by omega)
    have m4 := Int.emod_lt_of_pos v (show 0 < (n : Int) by omega)
    have t0 : -(n : Int) < v.tmod (n : Int) := by have := @Int.tmod_eq_emod v (n : Int); split at this <;> omega
    have t1 : v.tmod (n : Int) < (n : Int) := by have := @Int.tmod_eq_emod v (n : Int); split at this <;> omega
    have hn0 : ¬ n = 0 := by omega
    clear hp
    by_cases hs : v.tmod (n : Int) < 0
    · have q1 : decide (v.tmod (n : Int) < 0) = true := decide_eq_true hs
      have HFX := Lib.hid (tmod_neg_fix (show 0 < (n : Int) by omega) hs)
      go_enter Try.func23, Try.ntmps23
      go_wp2_with fail
      (with_reducible refine HF.out.mono ?_)
      rintro e w' ⟨rfl, hw'⟩
      subst hw'
      go_wp2_with fail
      go_ret2
      exact .mk (by rw [HFX.out]; simp; omega) rfl (Below.refl _ _)
    · have q1 : decide (v.tmod (n : Int) < 0) = false := decide_eq_false hs
      have HFX := Lib.hid (tmod_pos_fix (show 0 < (n : Int) by omega) hs)
      go_enter Try.func23, Try.ntmps23
      go_wp2_with fail
      (with_reducible refine HF.out.mono ?_)
      rintro e w' ⟨rfl, hw'⟩
      subst hw'
      go_wp2_with fail
      go_ret2
      exact .mk (by rw [HFX.out]; simp; omega) rfl (Below.refl _ _)
  · have hp : ofP v n = (0, 2) := if_neg h
    rw [fits_nil_no h] at HF
    rw [hp]
    clear hp
    go_enter Try.func23, Try.ntmps23
    go_wp2_with fail
    (with_reducible refine HF.out.mono ?_)
    rintro e w' ⟨rfl, hw'⟩
    subst hw'
    go_wp2_with fail
    go_ret2
    exact .mk rfl rfl (Below.refl _ _)

set_option maxHeartbeats 400000 in
theorem mbal_any (a n : Nat) (w : World) (ha : a ≤ 4294967295) (hn : n ≤ 4294967295) : Calls Try.prog 22 #[.int .u32 a, .int .u32 n] w (RetIE w (balP a n)) := by
  have HF := Lib.hid (fits1_at a n w)
  by_cases h : Mok n ∧ a < n
  · have hp : balP a n = ((if n < 2 * a then (a : Int) - n else a), 0) := if_pos h
    rw [fits_one'.2 h] at HF
    obtain ⟨⟨h1, h2⟩, h3⟩ := h
    rw [hp]
    clear hp
    by_cases hs : n < 2 * a
    · have q1 : decide (2 * (a : Int) > (n : Int)) = true := decide_eq_true (by omega)
      rw [if_pos hs]
      go_enter Try.func22, Try.ntmps22
      go_wp2_with fail
      (with_reducible refine HF.out.mono ?_)
      rintro e w' ⟨rfl, hw'⟩
      subst hw'
      go_wp2_with fail
      go_ret2
      exact .mk rfl rfl (bel2 _ _)
    · have q1 : decide (2 * (a : Int) > (n : Int)) = false := decide_eq_false (by omega)
      rw [if_neg hs]
      go_enter Try.func22, Try.ntmps22
      go_wp2_with fail
      (with_reducible refine HF.out.mono ?_)
      rintro e w' ⟨rfl, hw'⟩
      subst hw'
      go_wp2_with fail
      go_ret2
      exact .mk rfl rfl (bel2 _ _)
  · have hp : balP a n = (0, 2) := if_neg h
    rw [fits_one_no h] at HF
    rw [hp]
    clear hp
    go_enter Try.func22, Try.ntmps22
    go_wp2_with fail
    (with_reducible refine HF.out.mono ?_)
    rintro e w' ⟨rfl, hw'⟩
    subst hw'
    go_wp2_with fail
    go_ret2
    exact .mk rfl rfl (bel2 _ _)
end Go.Proofs.Ytigefhlgkmfgmaa
