/- The law PolysValues of layer 25. -/
import Derived.Test.YtmidpholmgmdpaaPk25
import Derived.Test.YtmidpholmgmdpaaSame25
namespace Go.Proofs.Ytmidpholmgmdpaa
open Go.RowKit
set_option linter.unusedVariables false

set_option maxRecDepth 100000 in
set_option maxHeartbeats 4000000 in
theorem polysValues_any (t m c : Nat) (A : Option Addr) (a : Nat → Int) (x : Int) (w : World) (ht : t ≤ 4294967295) (ha : Z.Sq .i64 w 0 w.heap.size A m a) (hmc : m ≤ c) (hcap : c ≤ 9223372036854775807) (hx : -9223372036854775808 ≤ x ∧ x ≤ 9223372036854775807) :
    Calls Try.prog 7 #[.int .u32 t, .slice A m c, .int .i64 x] w (RetV w (.bool true)) := by
  have HA := Lib.hid ha
  clear ha
  by_cases hbig : 1000 < m
  · have d2 : decide ((m : Int) > 1000) = true := decide_eq_true (by omega)
    have HW := Lib.hid (awake25_any w)
    go_enter Try.func7, Try.ntmps7
    go_wp2_with fail
    refine HW.out.mono ?_
    rintro e w1 ⟨rfl, hb1⟩
    go_wp2_with fail
    go_ret
    exact ⟨rfl, hb1⟩
  have d2 : decide ((m : Int) > 1000) = false := decide_eq_false (by omega)
  have d2' : decide (1000 < m) = false := decide_eq_false (by omega)
  have HMK := Lib.hid (make25_any t m c A a w ht HA.out hmc hcap)
  by_cases hE : polyE t m a = 0
  rotate_left
  · obtain ⟨E, hEe⟩ : ∃ E, polyE t m a = E := ⟨_, rfl⟩
    have HEE := Lib.hid hEe
    rw [hEe] at hE
    have e1 : (E != 0) = true := by rw [bne_iff_ne]; exact hE
    have HE := Lib.hid hE
    clear hE hEe
    go_enter Try.func7, Try.ntmps7
    go_wp2_with fail
    refine HMK.out.mono ?_
    rintro e w2 ⟨hb2, hh⟩
    rcases hh with ⟨_, rfl⟩ | ⟨h, _⟩
    · have HB2 := Lib.hid hb2
      rw [HEE.out]
      clear hb2
      go_wp2_with fail
      refine (awake25_any w2).mono ?_
      rintro e w3 ⟨rfl, hb3⟩
      go_wp2_with fail
      go_ret
      exact ⟨rfl, HB2.out.trans (hb3.mono HB2.out.size)⟩
    · exact absurd (HEE.out.symm.trans h) HE.out
  have hmod : modB t = true := by
    unfold polyE at hE
    by_cases h : modB t = true
    · exact h
    · rw [if_neg h] at hE; cases hE
  have hbig2 : m ≤ 256 := by
    unfold polyE at hE
    rw [if_pos hmod] at hE
    by_cases h : 256 < m
    · rw [if_pos h] at hE; cases hE
    · omega
  have hpok : PolyOk t m a := by
    unfold polyE at hE
    rw [if_pos hmod, if_neg (by omega)] at hE
    by_cases h : PolyOk t m a
    · exact h
    · rw [if_neg h] at hE; cases hE
  obtain ⟨ht3, htm, hodd⟩ := modB_yes.1 hmod
  have HE := Lib.hid hE
  have HMD := Lib.hid hmod
  have HPK := Lib.hid hpok
  have HCB : Hid (∀ j, -2147483648 ≤ a j ∧ a j ≤ 2147483648) := Lib.hid fun j => by
    by_cases hj : j < m
    · have := balB_b htm (hpok.1 j hj); omega
    · rw [HA.out.1 j (by omega)]; omega
  clear hE hmod hpok
  go_enter Try.func7, Try.ntmps7
  go_wp2_with fail
  refine HMK.out.mono ?_
  rintro e w2 ⟨hb2, hh⟩
  rcases hh with ⟨h, _⟩ | ⟨_, σ, A2, c2, hmr, rfl, hpl⟩
  · exact absurd HE.out h
  have hlaw := hmr.law ht3 hbig2 HA.out.1 HPK.out
  have HLAW := Lib.hid hlaw
  have hn6 := hlaw.le
  have hz2 := hb2.size
  have HB2 := Lib.hid hb2
  have HPO := Lib.hid (rpoly25_any t m c _ A a w2 ht (HA.out.below hb2 (Nat.le_refl _)) hz2 (by omega))
  rw [HE.out] at HPO
  have HRUN := Lib.hid (run25_any t σ.n c2 A2 σ.s x w2 ht hpl (by omega))
  have HCHK := Lib.hid (hlaw.chk HMD.out)
  clear hb2 hmr hpl hlaw HMK
  cases hbx : balB t x with
  | false =>
    rw [runV_no hbx, runE_no HCHK.out hbx] at HRUN
    have HBA := Lib.hid (fun (W : World) => rbalanced25_any t x W ht3 htm hodd)
    rw [hbx] at HBA
    clear hbx
    go_wp2_with (go_at_call 14; refine HPO.out.mono ?_; rintro e w' ⟨rfl, hw⟩; subst hw)
    refine HRUN.out.mono ?_
    rintro e w3 ⟨rfl, hb3⟩
    have HB3 := Lib.hid (HB2.out.trans (hb3.mono hz2))
    clear hb3
    go_wp2_with (go_at_call 26; refine (HBA.out _).mono ?_; rintro e w' ⟨rfl, hw⟩; subst hw)
    refine (awake25_any w3).mono ?_
    rintro e w4 ⟨rfl, hb4⟩
    go_wp2_with fail
    go_ret
    exact ⟨rfl, HB3.out.trans (hb4.mono HB3.out.size)⟩
  | true =>
    have hxb := balB_b htm hbx
    rw [runV_yes HCHK.out hbx, runE_yes HCHK.out hbx, HLAW.out.val ht3 hodd HA.out.1 hbx] at HRUN
    have HBA := Lib.hid (fun (W : World) => rbalanced25_any t x W ht3 htm hodd)
    rw [hbx] at HBA
    clear hbx
    obtain ⟨v, hv⟩ : ∃ v, valZ t a m x = v := ⟨_, rfl⟩
    have HRV : Hid (∀ W : World, Below w.heap.size w W → Calls Try.prog 15 #[.int .u32 t, .slice A m c, .int .i64 x] W (RetP W (.int .i64 v))) := Lib.hid fun W hW => hv ▸ rvalue25_any t m c _ A a x W ht3 htm hodd (HA.out.below hW (Nat.le_refl _)) hW.size (by omega) HCB.out (by omega)
    rw [hv] at HRUN
    have e5 : (v == v) = true := by simp
    clear hv
    go_wp2_with (go_at_call 14; refine HPO.out.mono ?_; rintro e w' ⟨rfl, hw⟩; subst hw)
    refine HRUN.out.mono ?_
    rintro e w3 ⟨rfl, hb3⟩
    have HB3 := Lib.hid (HB2.out.trans (hb3.mono hz2))
    clear hb3
    go_wp2_with (first | (go_at_call 26; refine (HBA.out _).mono ?_; rintro e w' ⟨rfl, hw⟩; subst hw) | (go_at_call 15; refine (HRV.out _ HB3.out).mono ?_; rintro e w' ⟨rfl, hw⟩; subst hw))
    refine (awake25_any w3).mono ?_
    rintro e w4 ⟨rfl, hb4⟩
    go_wp2_with fail
    go_ret
    exact ⟨rfl, HB3.out.trans (hb4.mono HB3.out.size)⟩
end Go.Proofs.Ytmidpholmgmdpaa
