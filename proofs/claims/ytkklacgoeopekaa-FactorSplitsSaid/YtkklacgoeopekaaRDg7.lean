/- The contract of the reference's Degree of layer 7. -/
import Derived.Test.YtkklacgoeopekaaAlg
import Derived.Test.YtkklacgoeopekaaSqZ2
import Derived.Test.YtkklacgoeopekaaRMod7
namespace Go.Proofs.Ytkklacgoeopekaa
open Go.RowKit
set_option linter.unusedVariables false

theorem pl1_iff {p : Nat} : pp7 p = true ↔ Pl p 1 := by
  rw [pp7_yes]
  exact ⟨fun h => ⟨h.1, h.2.1, h.2.2, by omega, by show p ^ 1 ≤ _; rw [Nat.pow_one]; omega⟩, fun h => ⟨h.1, h.2.1, h.2.2.1⟩⟩
set_option maxRecDepth 100000 in
set_option maxHeartbeats 4000000 in
theorem rdegree_any (n : Int) (p : Nat) (w : World) (hp : p ≤ 4294967295) : Calls Try.prog 18 #[.int .i64 n, .int .u32 p] w (RetDg w n p) := by
  have HDM := Lib.hid (fun W : World => rdim_any n W)
  have HPP := Lib.hid (fun W : World => rpp7_any p W hp)
  by_cases hd : dimF n
  rotate_left
  · have HN : Hid (¬ DgOk n p) := Lib.hid fun h2 => hd h2.1
    rw [show dimB n = false from by rw [Bool.eq_false_iff]; exact fun h => hd (dimB_yes.1 h)] at HDM
    clear hd
    go_enter Try.func18, Try.ntmps18
    go_wp2_with (go_at_call 13; refine (HDM.out _).mono ?_; rintro e w' ⟨rfl, hw⟩; subst hw)
    go_ret2
    exact ⟨Below.refl _ _, .inl ⟨HN.out, rfl⟩⟩
  obtain ⟨k, rfl, hk2, hk32⟩ := dimF_nat hd
  rw [show dimB (k : Int) = true from dimB_yes.2 hd] at HDM
  have HD := Lib.hid hd
  by_cases hpl : Pl p 1
  rotate_left
  · have HN : Hid (¬ DgOk (k : Int) p) := Lib.hid fun h2 => hpl h2.2
    rw [show pp7 p = false from by rw [Bool.eq_false_iff]; exact fun h => hpl (pl1_iff.1 h)] at HPP
    clear hd hpl
    go_enter Try.func18, Try.ntmps18
    go_wp2_with (first | (go_at_call 13; refine (HDM.out _).mono ?_; rintro e w' ⟨rfl, hw⟩; subst hw) | (go_at_call 14; refine (HPP.out _).mono ?_; rintro e w' ⟨rfl, hw⟩; subst hw))
    go_ret2
    exact ⟨Below.refl _ _, .inl ⟨HN.out, rfl⟩⟩
  rw [show pp7 p = true from pl1_iff.2 hpl] at HPP
  have hp3 := hpl.1
  have hp6 := hpl.2.1
  have HODD := Lib.hid (pr_odd hpl.2.2.1 hpl.1)
  have HPL := Lib.hid hpl
  obtain ⟨x0, hx0⟩ : ∃ x0, p % (2 * k) = x0 := ⟨_, rfl⟩
  have hx0i : (p : Int) % (2 * (k : Int)) = (x0 : Int) := by rw [← hx0]; simp
  have hx0t : (p : Int).tmod (2 * (k : Int)) = (x0 : Int) := by rw [Int.tmod_eq_emod_of_nonneg (by omega), hx0i]
  have hx0b : x0 < 2 * k := by rw [← hx0]; exact Nat.mod_lt _ (by omega)
  have HX0 := Lib.hid hx0
  have hk0 : ¬ k = 0 := by omega
  have hk1 : ¬ 2 * (k : Int) = 0 := by omega
  clear hpl hx0 hd
  go_enter Try.func18, Try.ntmps18
  go_wp2_with (first | (go_at_call 13; refine (HDM.out _).mono ?_; rintro e w' ⟨rfl, hw⟩; subst hw) | (go_at_call 14; refine (HPP.out _).mono ?_; rintro e w' ⟨rfl, hw⟩; subst hw))
  go_loopw [6, 7] (fun X D wr => ∃ d x : Nat, D = .int .i64 (((d + 1 : Nat)) : Int) ∧ X = .int .u32 (x : Int) ∧ d ≤ 15 ∧ x < 2 * k ∧ p ^ d % (2 * k) = x ∧ (∀ e, 1 ≤ e → e < d + 1 → p ^ e % (2 * k) ≠ 1) ∧ w = wr) (fun _ D _ => 17 - (intOf D).toNat)
  case atStart => exact ⟨0, 1, rfl, rfl, by omega, by omega, by rw [Nat.pow_zero]; exact Nat.mod_eq_of_lt (by omega), fun e h1 h2 => by omega, by trivial⟩
  case round =>
    obtain ⟨d, x, rfl, rfl, hd15, hxb, hpx, hno, rfl⟩ := hrel
    have HPX := Lib.hid hpx
    have HNO := Lib.hid hno
    clear hpx hno
    obtain ⟨mm, hmm⟩ : ∃ mm, x * x0 = mm := ⟨_, rfl⟩
    have hmi : (x : Int) * (x0 : Int) = (mm : Int) := by rw [← hmm]; simp
    have hmb : mm ≤ 64 * 64 := by rw [← hmm]; exact Nat.mul_le_mul (by omega) (by omega)
    obtain ⟨x2, hx2⟩ : ∃ x2, mm % (2 * k) = x2 := ⟨_, rfl⟩
    have hx2i : (mm : Int) % (2 * (k : Int)) = (x2 : Int) := by rw [← hx2]; simp
    have hx2t : (mm : Int).tmod (2 * (k : Int)) = (x2 : Int) := by rw [Int.tmod_eq_emod_of_nonneg (by omega), hx2i]
    have hx2b : x2 < 2 * k := by rw [← hx2]; exact Nat.mod_lt _ (by omega)
    have HNX : Hid (p ^ (d + 1) % (2 * k) = x2) := Lib.hid (by rw [Nat.pow_succ, Nat.mul_mod, HPX.out, HX0.out, hmm, hx2])
    clear hmm hx2
    by_cases hx1 : x2 = 1
    · have e1 : ((x2 : Int) == 1) = true := by simp; omega
      have HDG : Hid (Dg (k : Int).toNat p (d + 1)) := Lib.hid (by rw [Int.toNat_natCast]; exact ⟨by omega, HNX.out.trans hx1, HNO.out⟩)
      subst hx1
      go_wp2
      go_ret2
      exact ⟨Below.refl _ _, .inr ⟨⟨HD.out, HPL.out⟩, d + 1, HDG.out, by go_num⟩⟩
    · have e1 : ((x2 : Int) == 1) = false := by simp; omega
      have hdlt : d < 15 := by
        rcases Nat.lt_or_ge d 15 with h | h
        · exact h
        · exfalso
          have h16 := deg_16 HD.out HODD.out
          rw [show 16 = d + 1 by omega, HNX.out] at h16
          exact hx1 h16
      have HNO2 : Hid (∀ e, 1 ≤ e → e < d + 1 + 1 → p ^ e % (2 * k) ≠ 1) := Lib.hid fun e h1 h2 => by
        rcases Nat.lt_or_ge e (d + 1) with h | h
        · exact HNO.out e h1 h
        · rw [show e = d + 1 by omega, HNX.out]; exact hx1
      have hx1' : ¬ (x2 : Int) = 1 := by omega
      clear hx1
      go_wp2
      go_roundw
      case rel => exact ⟨d + 1, x2, by go_num, rfl, by omega, hx2b, HNX.out, HNO2.out, by trivial⟩
      case measure => simp only [intOf]; omega
end Go.Proofs.Ytkklacgoeopekaa
