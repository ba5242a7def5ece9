/- What every law of layer 1 asks first: the contract of shown. -/
import Derived.Test.YtigefhlgkmfgmaaRArith
import Derived.Test.YtigefhlgkmfgmaaRRoot
namespace Go.Proofs.Ytigefhlgkmfgmaa
open Go.RowKit
set_option linter.unusedVariables false

/-- no odd number from d on, up to c of them, divides n -/
noncomputable def ndv (n : Nat) (c : Nat) : Nat → Bool := Nat.rec (motive := fun _ => Nat → Bool) (fun _ => true) (fun _ ih d => Mr.force d fun d => cond (Nat.beq (Nat.mod n d) 0) false (ih (Nat.add d 2))) c
theorem ndv_ok {n : Nat} : ∀ c d, ndv n c d = true → ∀ i, i < c → ¬ (d + 2 * i) ∣ n := by
  intro c
  induction c with
  | zero => intro d _ i hi; omega
  | succ c ih =>
    intro d h i hi
    have h' : cond (Nat.beq (n % d) 0) false (ndv n c (d + 2)) = true := by
      have : ndv n (c + 1) d = Mr.force d fun d => cond (Nat.beq (Nat.mod n d) 0) false (ndv n c (Nat.add d 2)) := rfl
      rw [this, Mr.force_eq] at h
      exact h
    cases hb : Nat.beq (n % d) 0
    · rw [hb] at h'
      have h2 : ndv n c (d + 2) = true := h'
      rcases Nat.eq_zero_or_pos i with h0 | h0
      · subst h0
        intro hd
        have h3 := Nat.mod_eq_zero_of_dvd hd
        rw [Nat.mul_zero, Nat.add_zero] at h3
        rw [h3] at hb
        cases hb
      · have := ih (d + 2) h2 (i - 1) (by omega)
        rw [show d + 2 + 2 * (i - 1) = d + 2 * i by omega] at this
        exact this
    · rw [hb] at h'
      cases h'
set_option maxRecDepth 100000 in
theorem nd1 : ndv 2147483647 12000 3 = true := by decide +kernel
set_option maxRecDepth 100000 in
theorem nd2 : ndv 2147483647 12000 24003 = true := by decide +kernel
theorem pr31 : Mr.Pr 2147483647 := by
  refine pr_of_trial (d := 48003) (by omega) (by omega) fun c h1 h2 hd => ?_
  rcases Nat.mod_two_eq_zero_or_one c with h3 | h3
  · have := Nat.dvd_trans (Nat.dvd_of_mod_eq_zero h3) hd
    omega
  · rcases Nat.lt_or_ge c 24003 with h4 | h4
    · have := ndv_ok _ _ nd1 ((c - 3) / 2) (by omega)
      rw [show 3 + 2 * ((c - 3) / 2) = c by omega] at this
      exact this hd
    · have := ndv_ok _ _ nd2 ((c - 24003) / 2) (by omega)
      rw [show 24003 + 2 * ((c - 24003) / 2) = c by omega] at this
      exact this hd
theorem pr17 : Mr.Pr 17 := pr_lit (by omega) (by decide)
instance (p a e : Nat) : Decidable (Mr.U p a e) := by unfold Mr.U; infer_instance
theorem least17 : Least 17 8 2 := by
  refine ⟨ordr_of (by omega) (by decide) fun q hq hd hu => ?_, by omega, fun u hu ho => ?_⟩
  · have : q = 2 ∨ q = 4 ∨ q = 8 := by
      have h1 := hq.1
      have h2 := Nat.le_of_dvd (by omega) hd
      have h3 := Nat.mod_eq_zero_of_dvd hd
      have : q = 2 ∨ q = 3 ∨ q = 4 ∨ q = 5 ∨ q = 6 ∨ q = 7 ∨ q = 8 := by omega
      rcases this with rfl | rfl | rfl | rfl | rfl | rfl | rfl <;> simp at h3 <;> simp
    rcases this with rfl | rfl | rfl <;> exact absurd hu (by decide)
  · rcases Nat.lt_or_ge u 2 with h1 | h1
    · exfalso
      have : u = 0 ∨ u = 1 := by omega
      rcases this with rfl | rfl
      · exact absurd ho.2.1 (by decide)
      · have := ho.2.2 1 (by decide)
        exact absurd (Nat.le_of_dvd (by omega) this) (by omega)
    · exact h1
theorem root17 {v E : Nat} (h : RootR 8 17 v E) : v = 2 ∧ E = 0 := by
  have hp : RootPre 8 17 := ⟨by omega, by omega, pr17, by omega⟩
  rcases h with ⟨h1, _⟩ | ⟨_, h1, _⟩ | ⟨_, _, h1, _⟩ | ⟨_, _, _, h2, h3⟩
  · exact absurd hp h1
  · omega
  · exact absurd (by decide) h1
  · exact ⟨h3.uniq least17, h2⟩

set_option maxRecDepth 100000 in
set_option maxHeartbeats 1000000 in
theorem shown_any (w : World) : Calls Try.prog 15 #[] w (RetV w (.bool true)) := by
  have H1 := Lib.hid (madd_any 5 4 7 w (by omega) (by omega) (by omega))
  have H2 := Lib.hid (fun V => minv_any 3 7 V)
  have H3 := Lib.hid (fun V => minv_any 2 4 V)
  have H4 := Lib.hid (fun V => root_any 8 17 V (by omega) (by omega))
  have H5 := Lib.hid (fun V => mbal_any 5 8 V (by omega) (by omega))
  have H6 := Lib.hid (fun V => prime_any 2147483647 V (by omega))
  rw [show addP 5 4 7 = (2, 0) from rfl] at H1
  rw [show invE 3 7 = (5, 0) by decide] at H2
  rw [show invE 2 4 = (0, 4) by decide] at H3
  rw [show balP 5 8 = (-3, 0) from rfl] at H5
  rw [prB_yes pr31] at H6
  go_enter Try.func15, Try.ntmps15
  go_wp2_with fail
  refine H1.out.mono ?_
  rintro e w1 ⟨rfl, hb1⟩
  go_wp2_with fail
  refine (H2.out w1).mono ?_
  rintro e w2 ⟨rfl, hb2'⟩
  have hb2 := hb1.trans (hb2'.mono hb1.size)
  go_wp2_with fail
  refine (H3.out w2).mono ?_
  rintro e w3 ⟨rfl, hb3'⟩
  have hb3 := hb2.trans (hb3'.mono hb2.size)
  go_wp2_with fail
  refine (H4.out w3).mono ?_
  rintro e w4 ⟨v, E, rfl, hr, hb4'⟩
  obtain ⟨rfl, rfl⟩ := root17 hr
  have hb4 := hb3.trans (hb4'.mono hb3.size)
  go_wp2_with fail
  refine (H5.out w4).mono ?_
  rintro e w5 ⟨rfl, hb5'⟩
  have hb5 := hb4.trans (hb5'.mono hb4.size)
  go_wp2_with fail
  refine (H6.out w5).mono ?_
  rintro e w6 ⟨rfl, hb6'⟩
  have hb6 := hb5.trans (hb6'.mono hb5.size)
  go_wp2_with fail
  go_ret
  exact ⟨rfl, hb6⟩
end Go.Proofs.Ytigefhlgkmfgmaa
