/- The contract of the reference's PowMod. -/
import Derived.Test.YtoifjkandmnakaaPowMod
namespace Go.Proofs.Ytoifjkandmnakaa
open Go.RowKit

set_option maxHeartbeats 2000000 in
theorem rpowmod_any (m n nb ca cb N : Nat) (A B : Option Addr) (a b : Nat → Nat) (w : World) (hi : Nat) (ha : Sq .u32 w 0 hi A n a) (hb : Sq .u32 w 0 hi B nb b) (hhi : hi ≤ w.heap.size) (hn : n ≤ 9223372036854775807) (hnb : nb ≤ 9223372036854775807) (hN : N < 18446744073709551616) :
    Calls Try.prog 34 #[.int .u32 m, .slice A n ca, .int .u64 N, .slice B nb cb] w (RetPw w m n a N nb b) := by
  have HV := Lib.hid (both_any m n nb ca cb A B a b w 0 hi 0 hi ha hb hn hnb hhi)
  by_cases hc : chk2 m n a nb b = 0
  · rw [hc] at HV
    obtain ⟨hc1, hc2⟩ := chk2_zero hc
    obtain ⟨m1, m2, n1, _, n3⟩ := chk_zero hc1
    obtain ⟨_, _, b1, _, _⟩ := chk_zero hc2
    have HAA := Lib.hid (vals_lt hc1 ha.1)
    have HBB := Lib.hid (vals_lt hc2 hb.1)
    have HTL := Lib.hid (tl_of_last n3)
    have HA := Lib.hid (And.intro ha hb)
    have HC := Lib.hid hc
    clear hc hc1 hc2 n3 ha hb
    rcases hu : unitF m nb b with ⟨iv, t⟩
    have HU := Lib.hid hu
    cases t
    · have hE : dvE m n a nb b = 7 := by unfold dvE; rw [if_pos HC.out, hu]; rfl
      have HE := Lib.hid hE
      clear hE
      go_enter Try.func34, Try.ntmps34
      go_wp2_with fail
      refine HV.out.mono ?_
      rintro e w1 ⟨rfl, hbel1⟩
      have hun := leads_any m nb cb B b w1 0 hi (HA.out.2.below hbel1 hhi) (by omega) m1 m2 (HBB.out _)
      rw [hu] at hun
      have HUN := Lib.hid hun
      clear hun hu
      go_wp2_with fail
      refine HUN.out.mono ?_
      rintro e w2 ⟨rfl, rfl⟩
      go_wp2
      go_ret2
      exact retPw_err HE.out (by decide) hbel1
    · obtain ⟨hnb0, hiv, hinv⟩ := unitF_true hu m1 (HBB.out _)
      have hE : dvE m n a nb b = 0 := by unfold dvE; rw [if_pos HC.out, hu]; rfl
      have HE := Lib.hid hE
      have HINV := Lib.hid hinv
      clear hE hinv
      go_enter Try.func34, Try.ntmps34
      go_wp2_with fail
      refine HV.out.mono ?_
      rintro e w1 ⟨rfl, hbel1⟩
      have hun := leads_any m nb cb B b w1 0 hi (HA.out.2.below hbel1 hhi) (by omega) m1 m2 (HBB.out _)
      rw [hu] at hun
      have HUN := Lib.hid hun
      clear hun hu
      go_wp2_with fail
      refine HUN.out.mono ?_
      rintro e w2 ⟨rfl, rfl⟩
      have hz1 := hbel1.size
      have hrest : ∀ (k c : Nat) (D : Option Addr) (f : Nat → Nat) (wx : World), Below w1.heap.size w1 wx → Sq .u32 wx 0 wx.heap.size D k f → Res m (k, f) → k ≤ 900 →
          Calls Try.prog 49 #[.int .u32 m, .slice D k c, .slice B nb cb, .int .u32 iv] wx
            (fun e w' => ∃ A1 n1 c1 k' c' D' f', e = .returned (.tuple #[.slice A1 n1 c1, .slice D' k' c']) ∧ (k', f') = restP m nb b iv (k, f) ∧ Res m (k', f') ∧ k' < nb ∧ k' ≤ c' ∧ Sq .u32 w' wx.heap.size w'.heap.size D' k' f' ∧ Below wx.heap.size wx w') := by
        intro k c D f wx hbx hsx hR hk
        have hzx := hbx.size
        have hbb : Sq .u32 wx 0 hi B nb b := (HA.out.2.below hbel1 hhi).below hbx (by omega)
        obtain ⟨r1, r2, r3⟩ := res_rest (iv := iv) (b := b) (nb := nb) hR (by omega) hnb0 HINV.out HA.out.2.1
        refine (split_any m iv k nb c cb D B f b wx 0 _ 0 hi hsx hbb (by omega) m2 hiv hR.1 HBB.out hk (by omega) (by omega) hnb0 HINV.out hR.2.2).mono ?_
        rintro e w' ⟨A1, c1, A2, c2, rfl, _, h2, _, h4, h5⟩
        exact ⟨A1, _, c1, _, c2, A2, _, rfl, rfl, r1, r2, h2, h4, h5⟩
      have HRS := Lib.hid hrest
      have hone := res_one m1
      clear hrest
      go_wp2_with fail
      have hbx : Below w1.heap.size w1 (w1.alloc (.cells #[.int .u32 1] 22)) := (Below.refl _ _).alloc (Nat.le_refl _) _
      have hsx : Sq .u32 (w1.alloc (.cells #[.int .u32 1] 22)) 0 (w1.alloc (.cells #[.int .u32 1] 22)).heap.size (some ⟨w1.heap.size, 0, none⟩) 1 (oneF 1) := sq_one rfl (Nat.zero_le _) (by simp)
      generalize w1.alloc (.cells #[.int .u32 1] 22) = w4 at hbx hsx ⊢
      have hz4 := hbx.size
      refine (HRS.out 1 1 _ (oneF 1) w4 hbx hsx hone (by omega)).mono ?_
      rintro e w5 ⟨Aq, nq1, cq, no, co, Ao, fo, rfl, ho1, ho2, ho3, ho4, ho5, hb5⟩
      have hz5 := hb5.size
      have hbx5 := hbx.trans (hb5.mono hz4)
      have HO := Lib.hid (And.intro ho1 (And.intro ho2 ho5))
      clear ho1 ho2 ho5 hsx hone hbx hb5
      go_wp2_with fail
      refine (HRS.out n ca A a w5 hbx5 (((HA.out.1.below hbel1 hhi).below hbx5 (by omega)).wide (Nat.le_refl _) (by omega)) ⟨HAA.out, HA.out.1.1, HTL.out⟩ (by omega)).mono ?_
      rintro e w6 ⟨Ar, nr1, cr, nx, cx, Ax, fx, rfl, hx1, hx2, hx3, hx4, hx5, hb6⟩
      have hz6 := hb6.size
      have hbx6 := hbx5.trans (hb6.mono (by omega))
      have HX := Lib.hid (And.intro hx1 (And.intro hx2 hx5))
      have HB6 := Lib.hid (And.intro hb6 hbx6)
      obtain ⟨P0, hP0⟩ : ∃ P0, powP m nb b iv 64 N (no, fo) (nx, fx) = P0 := ⟨_, rfl⟩
      have HP := Lib.hid hP0
      have hPP : powP m nb b iv 64 N (restP m nb b iv (1, oneF 1)) (restP m nb b iv (n, a)) = P0 := by rw [← HO.out.1, ← hx1]; exact hP0
      have HPP := Lib.hid hPP
      clear hPP hx1 hx2 hx5 hb6 hbx6 hbx5 hP0
      go_wp2_with fail
      go_loopw [2, 14, 16] (fun N o x wr => PowR m nb iv b P0 w w1 N o x wr) (fun N _ _ _ => (intOf N).toNat)
      case atStart =>
        obtain ⟨g1, g2, g3⟩ := HO.out
        obtain ⟨g4, g5, g6⟩ := HX.out
        exact ⟨64, N, no, co, nx, cx, fo, fx, Ao, Ax, rfl, hN, hN, rfl, rfl, ho4, (g3.below HB6.out.1 (Nat.le_refl _)).wide (by omega) hz6, g6.wide (by omega) (Nat.le_refl _), g2, g5, ho3, hx3, HP.out, HB6.out.2⟩
      case round =>
        clear HO HX HB6 HP hx4 hx3 ho4 ho3 hz6 hz5
        obtain ⟨k, n', no, co, nx, cx, fo, fx, Ao, Ax, rfl, hk, hn64, rfl, rfl, hoc, hso, hsx, hro, hrx, hno, hnx, hP, hbel⟩ := hrel
        have hzr := hbel.size
        by_cases h0 : n' = 0
        · subst h0
          have H := Lib.hid (And.intro hso (And.intro hP hbel))
          clear hso hsx hro hrx hP hbel
          go_wp2
          go_ret2
          obtain ⟨hso, hP, hbel⟩ := H.out
          rw [powP_zero] at hP
          exact retPw_ok HE.out HU.out (hP.trans HPP.out.symm) hoc hso (hbel1.trans (hbel.mono hz1))
        · obtain ⟨k', rfl⟩ : ∃ k', k = k' + 1 := ⟨k - 1, by
            rcases Nat.eq_zero_or_pos k with h | h
            · subst h; omega
            · omega⟩
          have hP2 : powP m nb b iv k' (n' / 2) (if n' % 2 = 1 then restP m nb b iv (prodP m (no, fo) (nx, fx)) else (no, fo)) (restP m nb b iv (prodP m (nx, fx) (nx, fx))) = P0 := by rw [← hP, powP_succ, if_neg h0]
          have hpow : n' / 2 < 2 ^ k' := by rw [Nat.pow_succ] at hk; omega
          have H := Lib.hid (And.intro hso (And.intro hsx (And.intro hro (And.intro hrx (And.intro hP2 (And.intro hbel hpow))))))
          have hgt : decide ((n' : Int) > 0) = true := decide_eq_true (by omega)
          clear hso hsx hro hrx hP hP2 hbel hk hpow
          have hodm := Nat.mod_lt n' (show 0 < 2 by omega)
          by_cases hod : n' % 2 = 1
          · have hodi : ((n' : Int) % 2 == 1) = true := by simp; omega
            have HOD := Lib.hid hod
            clear hod
            go_wp2_with fail
            refine (times_any m no nx co cx Ao Ax fo fx wr _ _ _ _ H.out.1 H.out.2.1 (by omega) m2 H.out.2.2.1.1 H.out.2.2.2.1.1 (by omega) (by omega) (Nat.le_refl _) (Nat.le_refl _)).mono ?_
            rintro e w5 ⟨D1, c1, rfl, d1, d2, d3⟩
            obtain ⟨p1, p2⟩ := res_prod H.out.2.2.1 H.out.2.2.2.1 (show 0 < m by omega)
            have hy5 := d3.size
            have hbx5 := H.out.2.2.2.2.2.1.trans (d3.mono hzr)
            have D := Lib.hid (And.intro d2 (And.intro p1 (And.intro d3 hbx5)))
            clear p1 d2 d3 hbx5
            go_wp2_with fail
            refine (HRS.out _ c1 D1 _ w5 D.out.2.2.2 (D.out.1.wide (Nat.zero_le _) (Nat.le_refl _)) D.out.2.1 (Nat.le_trans p2 (show no + nx ≤ 900 by omega))).mono ?_
            rintro e w6 ⟨Aq6, nq6, cq6, n6, c6, D6, f6, rfl, g1, g2, g3, g4, g5, g6⟩
            have hy6 := g6.size
            have hbx6 := D.out.2.2.2.trans (g6.mono (by omega))
            have hb56 := D.out.2.2.1.trans (g6.mono hy5)
            have G := Lib.hid (And.intro g1 (And.intro g2 (And.intro g5 (And.intro hbx6 hb56))))
            clear g1 g2 g5 g6 hbx6 hb56 D p2 d1
            go_wp2_with fail
            refine (times_any m nx nx cx cx Ax Ax fx fx w6 _ _ _ _ (H.out.2.1.below G.out.2.2.2.2 (Nat.le_refl _)) (H.out.2.1.below G.out.2.2.2.2 (Nat.le_refl _)) (by omega) m2 H.out.2.2.2.1.1 H.out.2.2.2.1.1 (by omega) (by omega) (by omega) (by omega)).mono ?_
            rintro e w7 ⟨D7, c7, rfl, d1, d2, d3⟩
            obtain ⟨p1, p2⟩ := res_prod H.out.2.2.2.1 H.out.2.2.2.1 (show 0 < m by omega)
            have hy7 := d3.size
            have hbx7 := G.out.2.2.2.1.trans (d3.mono (by omega))
            have D := Lib.hid (And.intro d2 (And.intro p1 (And.intro d3 hbx7)))
            clear p1 d2 d3 hbx7
            go_wp2_with fail
            refine (HRS.out _ c7 D7 _ w7 D.out.2.2.2 (D.out.1.wide (Nat.zero_le _) (Nat.le_refl _)) D.out.2.1 (Nat.le_trans p2 (show nx + nx ≤ 900 by omega))).mono ?_
            rintro e w8 ⟨Aq8, nq8, cq8, n8, c8, D8, f8, rfl, k1, k2, k3, k4, k5, k6⟩
            have hy8 := k6.size
            have hbx8 := D.out.2.2.2.trans (k6.mono (by omega))
            have hb78 := D.out.2.2.1.trans (k6.mono hy7)
            have K := Lib.hid (And.intro k1 (And.intro k2 (And.intro k5 (And.intro hbx8 hb78))))
            clear k1 k2 k5 k6 hbx8 hb78 D p2 d1
            go_wp2
            go_roundw
            case rel =>
              refine ⟨k', n' / 2, n6, c6, n8, c8, f6, f8, D6, D8, by go_num, H.out.2.2.2.2.2.2, by omega, rfl, rfl, g4, (G.out.2.2.1.below K.out.2.2.2.2 (Nat.le_refl _)).wide (by omega) (by omega), K.out.2.2.1.wide (by omega) (Nat.le_refl _), G.out.2.1, K.out.2.1, g3, k3, ?_, K.out.2.2.2.1⟩
              have hP := H.out.2.2.2.2.1
              rw [if_pos HOD.out] at hP
              rw [G.out.1, K.out.1]
              exact hP
            case measure => simp [intOf]; omega
          · have hodi : ((n' : Int) % 2 == 1) = false := by simp; omega
            have HOD := Lib.hid hod
            clear hod
            go_wp2_with fail
            refine (times_any m nx nx cx cx Ax Ax fx fx wr _ _ _ _ H.out.2.1 H.out.2.1 (by omega) m2 H.out.2.2.2.1.1 H.out.2.2.2.1.1 (by omega) (by omega) (Nat.le_refl _) (Nat.le_refl _)).mono ?_
            rintro e w7 ⟨D7, c7, rfl, d1, d2, d3⟩
            obtain ⟨p1, p2⟩ := res_prod H.out.2.2.2.1 H.out.2.2.2.1 (show 0 < m by omega)
            have hy7 := d3.size
            have hbx7 := H.out.2.2.2.2.2.1.trans (d3.mono (by omega))
            have D := Lib.hid (And.intro d2 (And.intro p1 (And.intro d3 hbx7)))
            clear p1 d2 d3 hbx7
            go_wp2_with fail
            refine (HRS.out _ c7 D7 _ w7 D.out.2.2.2 (D.out.1.wide (Nat.zero_le _) (Nat.le_refl _)) D.out.2.1 (Nat.le_trans p2 (show nx + nx ≤ 900 by omega))).mono ?_
            rintro e w8 ⟨Aq8, nq8, cq8, n8, c8, D8, f8, rfl, k1, k2, k3, k4, k5, k6⟩
            have hy8 := k6.size
            have hbx8 := D.out.2.2.2.trans (k6.mono (by omega))
            have hb78 := D.out.2.2.1.trans (k6.mono hy7)
            have K := Lib.hid (And.intro k1 (And.intro k2 (And.intro k5 (And.intro hbx8 hb78))))
            clear k1 k2 k5 k6 hbx8 hb78 D p2 d1
            go_wp2
            go_roundw
            case rel =>
              refine ⟨k', n' / 2, no, co, n8, c8, fo, f8, Ao, D8, by go_num, H.out.2.2.2.2.2.2, by omega, rfl, rfl, hoc, (H.out.1.below K.out.2.2.2.2 (Nat.le_refl _)).wide (by omega) (by omega), K.out.2.2.1.wide (by omega) (Nat.le_refl _), H.out.2.2.1, K.out.2.1, hno, k3, ?_, K.out.2.2.2.1⟩
              have hP := H.out.2.2.2.2.1
              rw [if_neg HOD.out] at hP
              rw [K.out.1]
              exact hP
            case measure => simp [intOf]; omega
  · obtain ⟨x, hx⟩ : ∃ x, chk2 m n a nb b = x := ⟨_, rfl⟩
    have hE : dvE m n a nb b = x := by unfold dvE; rw [if_neg hc, hx]
    rw [hx] at HV hc
    have hxz : ((x : Int) != 0) = true := by simp; omega
    have HE := Lib.hid hE
    clear hx ha hb hE
    go_enter Try.func34, Try.ntmps34
    go_wp2_with fail
    refine HV.out.mono ?_
    rintro e w1 ⟨rfl, hbel1⟩
    go_wp2
    go_ret2
    exact retPw_err HE.out hc hbel1
end Go.Proofs.Ytoifjkandmnakaa
