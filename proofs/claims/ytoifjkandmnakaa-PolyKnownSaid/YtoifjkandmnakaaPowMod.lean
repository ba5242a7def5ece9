/- The contract of poly.PowMod. -/
import Derived.Test.YtoifjkandmnakaaRest
namespace Go.Proofs.Ytoifjkandmnakaa
open Go.RowKit

/-- the error, length and elements of a power -/
def pwE (m n : Nat) (a : Nat → Nat) (nb : Nat) (b : Nat → Nat) : Nat := dvE m n a nb b
def pwP (m n : Nat) (a : Nat → Nat) (N nb : Nat) (b : Nat → Nat) : Nat × (Nat → Nat) :=
  if dvE m n a nb b = 0 then powP m nb b (unitF m nb b).1 64 N (restP m nb b (unitF m nb b).1 (1, oneF 1)) (restP m nb b (unitF m nb b).1 (n, a)) else (0, fun _ => 0)
def RetPw (w : World) (m n : Nat) (a : Nat → Nat) (N nb : Nat) (b : Nat → Nat) : Ending → World → Prop := RetSlE w (pwP m n a N nb b).1 (pwP m n a N nb b).2 (dvE m n a nb b)

theorem retPw_err {w w' : World} {m n nb N x : Nat} {a b : Nat → Nat} (hx : dvE m n a nb b = x) (h0 : x ≠ 0) (hb : Below w.heap.size w w') : RetPw w m n a N nb b (.returned (.tuple #[.slice none 0 0, .int .i64 (x : Int)])) w' := by
  have e1 : pwP m n a N nb b = (0, fun _ => 0) := by unfold pwP; rw [hx, if_neg h0]
  unfold RetPw
  rw [e1, hx]
  exact ⟨none, 0, rfl, Nat.le_refl _, Sq.nil _ _ _ _ _, hb⟩
theorem retPw_ok {w w' : World} {m n nb N k c iv : Nat} {a b f : Nat → Nat} {A : Option Addr} (hE : dvE m n a nb b = 0) (hu : unitF m nb b = (iv, true)) (hP : (k, f) = powP m nb b iv 64 N (restP m nb b iv (1, oneF 1)) (restP m nb b iv (n, a)))
    (hkc : k ≤ c) (hs : Sq .u32 w' w.heap.size w'.heap.size A k f) (hb : Below w.heap.size w w') : RetPw w m n a N nb b (.returned (.tuple #[.slice A k c, .int .i64 0])) w' := by
  have e1 : pwP m n a N nb b = (k, f) := by unfold pwP; rw [if_pos hE, hu, hP]
  unfold RetPw
  rw [e1, hE]
  exact ⟨A, c, rfl, hkc, hs, hb⟩

/-- what holds at the loop's head -/
def PowR (m nb iv : Nat) (b : Nat → Nat) (P0 : Nat × (Nat → Nat)) (w w3 : World) (N : Value) (o : Value) (x : Value) (wr : World) : Prop :=
  ∃ (k n no co nx cx : Nat) (fo fx : Nat → Nat) (Ao Ax : Option Addr), N = .int .u64 (n : Int) ∧ n < 2 ^ k ∧ n < 18446744073709551616 ∧ o = .slice Ao no co ∧ x = .slice Ax nx cx ∧ no ≤ co ∧
    Sq .u32 wr w.heap.size wr.heap.size Ao no fo ∧ Sq .u32 wr w.heap.size wr.heap.size Ax nx fx ∧ Res m (no, fo) ∧ Res m (nx, fx) ∧ no < nb ∧ nx < nb ∧ powP m nb b iv k n (no, fo) (nx, fx) = P0 ∧ Below w3.heap.size w3 wr

set_option maxHeartbeats 2000000 in
theorem powmod_any (m n nb ca cb N : Nat) (A B : Option Addr) (a b : Nat → Nat) (w : World) (ha : Sq .u32 w 0 w.heap.size A n a) (hb : Sq .u32 w 0 w.heap.size B nb b) (hn : n ≤ 9223372036854775807) (hnb : nb ≤ 9223372036854775807) (hN : N < 18446744073709551616) :
    Calls Try.prog 33 #[.int .u32 m, .slice A n ca, .int .u64 N, .slice B nb cb] w (RetPw w m n a N nb b) := by
  obtain ⟨w0, hw0⟩ : ∃ w0, w0 = (w.alloc (.cells #[.int .u32 (m : Int)] 22)).alloc (.cells #[.slice B nb cb] 23) := ⟨_, rfl⟩
  have hbel0 : Below w.heap.size w w0 := by rw [hw0]; exact ((Below.refl _ _).alloc (Nat.le_refl _) _).alloc (by simp) _
  have hz0 : w0.heap.size = w.heap.size + 2 := by rw [hw0]; simp
  have hcm : w0.cell? ⟨w.heap.size, 0, none⟩ = some (.int .u32 (m : Int)) := by rw [hw0, World.cell?_alloc_past _ _ _ (by simp), World.cell?_alloc_new]; rfl
  have hcf : w0.cell? ⟨w.heap.size + 1, 0, none⟩ = some (.slice B nb cb) := by
    rw [hw0, show w.heap.size + 1 = (w.alloc (.cells #[.int .u32 (m : Int)] 22)).heap.size from by simp, World.cell?_alloc_new]; rfl
  have HV0 : ∀ g W, g = w.heap.size + 1 + 1 → W = w0.alloc (.cells #[.slice A n ca, .slice B nb cb] 23) → Calls Try.prog 44 #[.int .u32 m, .slice (some ⟨g, 0, none⟩) 2 2] W (fun e w' => e = .returned (.int .i64 (chk2 m n a nb b : Nat)) ∧ Below w0.heap.size w0 w') := by
    intro g W hg hW
    rw [show g = w0.heap.size by omega]
    exact valid2_call m n nb ca cb A B a b w0 0 w.heap.size (ha.below hbel0 (Nat.le_refl _)) (hb.below hbel0 (Nat.le_refl _)) hn hnb (by omega) W hW
  have HV := Lib.hid HV0
  have HC3 := Lib.hid (And.intro hcm (And.intro hcf (And.intro hbel0 hz0)))
  have HW := Lib.hid hw0
  clear hcm hcf hbel0 hz0 hw0 HV0
  by_cases hc : chk2 m n a nb b = 0
  · rw [hc] at HV
    obtain ⟨hc1, hc2⟩ := chk2_zero hc
    obtain ⟨m1, m2, n1, _, n3⟩ := chk_zero hc1
    obtain ⟨_, _, b1, _, _⟩ := chk_zero hc2
    have HAA := Lib.hid (vals_lt hc1 ha.1)
    have HBB := Lib.hid (vals_lt hc2 hb.1)
    have HTL := Lib.hid (tl_of_last n3)
    have HA := Lib.hid (And.intro ha hb)
    have HC := Lib.hid hc
    clear hc hc1 hc2 n3 ha hb
    rcases hu : unitF m nb b with ⟨iv, t⟩
    have HU := Lib.hid hu
    cases t
    · have hE : dvE m n a nb b = 7 := by unfold dvE; rw [if_pos HC.out, hu]; rfl
      have HE := Lib.hid hE
      clear hE
      go_enter Try.func33, Try.ntmps33
      go_wp2_with fail
      rw [← HW.out]
      refine (HV.out _ _ rfl rfl).mono ?_
      rintro e w1 ⟨rfl, hbel1⟩
      obtain ⟨hcm, hcf, hbel0, hz0⟩ := HC3.out
      have hz1 := hbel1.size
      have hcm1 := (hbel1.cell (p := ⟨w.heap.size, 0, none⟩) (by show w.heap.size < w0.heap.size; omega)).trans hcm
      have hcf1 := (hbel1.cell (p := ⟨w.heap.size + 1, 0, none⟩) (by show w.heap.size + 1 < w0.heap.size; omega)).trans hcf
      have hbel2 := hbel0.trans (hbel1.mono (by omega))
      have hun := unit_any m nb cb B b w1 _ _ (HA.out.2.below hbel2 (Nat.le_refl _)) (by omega) m1 m2 (HBB.out _)
      rw [hu] at hun
      have HUN := Lib.hid hun
      have HB2 := Lib.hid hbel2
      clear hun hu hcm hcf hbel0 hbel1 hbel2
      go_wp2_with fail
      refine HUN.out.mono ?_
      rintro e w2 ⟨rfl, hbel2⟩
      go_wp2
      go_ret2
      exact retPw_err HE.out (by decide) ((HB2.out.trans (hbel2.mono HB2.out.size)).alloc (by have := HB2.out.size; have := hbel2.size; omega) _)
    · obtain ⟨hnb0, hiv, hinv⟩ := unitF_true hu m1 (HBB.out _)
      have hE : dvE m n a nb b = 0 := by unfold dvE; rw [if_pos HC.out, hu]; rfl
      have HE := Lib.hid hE
      have HINV := Lib.hid hinv
      clear hE hinv
      go_enter Try.func33, Try.ntmps33
      go_wp2_with fail
      rw [← HW.out]
      refine (HV.out _ _ rfl rfl).mono ?_
      rintro e w1 ⟨rfl, hbel1⟩
      obtain ⟨hcm, hcf, hbel0, hz0⟩ := HC3.out
      have hz1 := hbel1.size
      have hcm1 := (hbel1.cell (p := ⟨w.heap.size, 0, none⟩) (by show w.heap.size < w0.heap.size; omega)).trans hcm
      have hcf1 := (hbel1.cell (p := ⟨w.heap.size + 1, 0, none⟩) (by show w.heap.size + 1 < w0.heap.size; omega)).trans hcf
      have hbel2 := hbel0.trans (hbel1.mono (by omega))
      have hun := unit_any m nb cb B b w1 _ _ (HA.out.2.below hbel2 (Nat.le_refl _)) (by omega) m1 m2 (HBB.out _)
      rw [hu] at hun
      have HUN := Lib.hid hun
      have HB2 := Lib.hid hbel2
      clear hun hu hcm hcf hbel0 hbel1 hbel2
      go_wp2_with fail
      refine HUN.out.mono ?_
      rintro e w2 ⟨rfl, hbel2⟩
      have hz2 := hbel2.size
      have hcm2 := (hbel2.cell (p := ⟨w.heap.size, 0, none⟩) (by show w.heap.size < w1.heap.size; omega)).trans hcm1
      have hcf2 := (hbel2.cell (p := ⟨w.heap.size + 1, 0, none⟩) (by show w.heap.size + 1 < w1.heap.size; omega)).trans hcf1
      have HB3 := Lib.hid (HB2.out.trans (hbel2.mono HB2.out.size))
      have hsz3 := HB3.out.size
      obtain ⟨w3, hw3⟩ : ∃ w3, w3 = w2.alloc (.cells #[.int .u32 (iv : Int)] 22) := ⟨_, rfl⟩
      have hz3 : w3.heap.size = w2.heap.size + 1 := by rw [hw3]; simp
      have hbel3 : Below w.heap.size w w3 := by rw [hw3]; exact HB3.out.alloc hsz3 _
      have hrest : ∀ (k c : Nat) (D : Option Addr) (f : Nat → Nat) (wx : World), Below w3.heap.size w3 wx → Sq .u32 wx 0 wx.heap.size D k f → Res m (k, f) → k ≤ 2000 →
          Calls Try.prog 56 #[.slice D k c, .pointer (some ⟨w.heap.size, 0, none⟩), .pointer (some ⟨w.heap.size + 1, 0, none⟩), .pointer (some ⟨w2.heap.size, 0, none⟩)] wx
            (fun e w' => ∃ k' c' D' f', e = .returned (.slice D' k' c') ∧ (k', f') = restP m nb b iv (k, f) ∧ Res m (k', f') ∧ k' < nb ∧ k' ≤ c' ∧ Sq .u32 w' wx.heap.size w'.heap.size D' k' f' ∧ Below wx.heap.size wx w') := by
        intro k c D f wx hbx hsx hR hk
        have hzx := hbx.size
        have c1 : wx.cell? ⟨w2.heap.size, 0, none⟩ = some (.int .u32 (iv : Int)) := by
          rw [hbx.cell (p := ⟨w2.heap.size, 0, none⟩) (show w2.heap.size < w3.heap.size by omega), hw3, World.cell?_alloc_new]; rfl
        have c2 : wx.cell? ⟨w.heap.size, 0, none⟩ = some (.int .u32 (m : Int)) := by
          rw [hbx.cell (p := ⟨w.heap.size, 0, none⟩) (show w.heap.size < w3.heap.size by omega), hw3, World.cell?_alloc_past _ _ _ (by show w.heap.size < w2.heap.size; omega)]; exact hcm2
        have c3 : wx.cell? ⟨w.heap.size + 1, 0, none⟩ = some (.slice B nb cb) := by
          rw [hbx.cell (p := ⟨w.heap.size + 1, 0, none⟩) (show w.heap.size + 1 < w3.heap.size by omega), hw3, World.cell?_alloc_past _ _ _ (by show w.heap.size + 1 < w2.heap.size; omega)]; exact hcf2
        have hbb : Sq .u32 wx 0 wx.heap.size B nb b := ((HA.out.2.below hbel3 (Nat.le_refl _)).below hbx (by omega)).wide (Nat.le_refl _) (by omega)
        obtain ⟨r1, r2, r3⟩ := res_rest (iv := iv) (b := b) (nb := nb) hR (by omega) hnb0 HINV.out HA.out.2.1
        refine (rest_any m iv k nb c cb _ _ _ D B f b wx hsx hbb c2 c3 c1 (by omega) m2 hiv hR.1 HBB.out hk (by omega) hnb0).mono ?_
        rintro e w' ⟨D', c', rfl, h1, h2, h3⟩
        exact ⟨_, c', D', _, rfl, rfl, r1, r2, h1, h2, h3⟩
      have HRS := Lib.hid hrest
      have hone := res_one m1
      have hc4 : w3.cell? ⟨w.heap.size, 0, none⟩ = some (.int .u32 (m : Int)) := by rw [hw3, World.cell?_alloc_past _ _ _ (by show w.heap.size < w2.heap.size; omega)]; exact hcm2
      have HC4 := Lib.hid hc4
      have HW3 := Lib.hid (And.intro hw3 (And.intro hz3 hbel3))
      clear hc4 hcm1 hcf1 hbel2 hrest hcm2 hcf2 hw3 hz3 hbel3
      go_wp2_with fail
      obtain ⟨hw3, hz3, hbel3⟩ := HW3.out
      rw [← hw3]
      have hbx : Below w3.heap.size w3 (w3.alloc (.cells #[.int .u32 1] 22)) := (Below.refl _ _).alloc (Nat.le_refl _) _
      have hsx : Sq .u32 (w3.alloc (.cells #[.int .u32 1] 22)) 0 (w3.alloc (.cells #[.int .u32 1] 22)).heap.size (some ⟨w3.heap.size, 0, none⟩) 1 (oneF 1) := sq_one rfl (Nat.zero_le _) (by simp)
      rw [hz3] at hsx
      clear hw3
      generalize w3.alloc (.cells #[.int .u32 1] 22) = w4 at hbx hsx ⊢
      have hz4 := hbx.size
      refine (HRS.out 1 1 _ (oneF 1) w4 hbx hsx hone (by omega)).mono ?_
      rintro e w5 ⟨no, co, Ao, fo, rfl, ho1, ho2, ho3, ho4, ho5, hb5⟩
      have hz5 := hb5.size
      have hbx5 := hbx.trans (hb5.mono hz4)
      have HO := Lib.hid (And.intro ho1 (And.intro ho2 ho5))
      clear ho1 ho2 ho5 hsx hone hbx hb5
      go_wp2_with fail
      refine (HRS.out n ca A a w5 hbx5 (((HA.out.1.below hbel3 (Nat.le_refl _)).below hbx5 (by omega)).wide (Nat.le_refl _) (by omega)) ⟨HAA.out, HA.out.1.1, HTL.out⟩ (by omega)).mono ?_
      rintro e w6 ⟨nx, cx, Ax, fx, rfl, hx1, hx2, hx3, hx4, hx5, hb6⟩
      have hz6 := hb6.size
      have hbx6 := hbx5.trans (hb6.mono (by omega))
      have HX := Lib.hid (And.intro hx1 (And.intro hx2 hx5))
      have HB6 := Lib.hid (And.intro hb6 hbx6)
      obtain ⟨P0, hP0⟩ : ∃ P0, powP m nb b iv 64 N (no, fo) (nx, fx) = P0 := ⟨_, rfl⟩
      have HP := Lib.hid hP0
      have hPP : powP m nb b iv 64 N (restP m nb b iv (1, oneF 1)) (restP m nb b iv (n, a)) = P0 := by rw [← HO.out.1, ← hx1]; exact hP0
      have HPP := Lib.hid hPP
      clear hPP hx1 hx2 hx5 hb6 hbx6 hbx5 hP0
      go_wp2_with fail
      have hw3z : w.heap.size ≤ w3.heap.size := by omega
      go_loopw [2, 14, 15] (fun N o x wr => PowR m nb iv b P0 w w3 N o x wr) (fun N _ _ _ => (intOf N).toNat)
      case atStart =>
        obtain ⟨g1, g2, g3⟩ := HO.out
        obtain ⟨g4, g5, g6⟩ := HX.out
        exact ⟨64, N, no, co, nx, cx, fo, fx, Ao, Ax, rfl, hN, hN, rfl, rfl, ho4, (g3.below HB6.out.1 (Nat.le_refl _)).wide (by omega) hz6, g6.wide (by omega) (Nat.le_refl _), g2, g5, ho3, hx3, HP.out, HB6.out.2⟩
      case round =>
        clear HO HX HB6 HP hx4 hx3 ho4 ho3 hz6 hz5
        obtain ⟨k, n', no, co, nx, cx, fo, fx, Ao, Ax, rfl, hk, hn64, rfl, rfl, hoc, hso, hsx, hro, hrx, hno, hnx, hP, hbel⟩ := hrel
        have hzr := hbel.size
        by_cases h0 : n' = 0
        · subst h0
          have H := Lib.hid (And.intro hso (And.intro hP hbel))
          clear hso hsx hro hrx hP hbel
          go_wp2
          go_ret2
          obtain ⟨hso, hP, hbel⟩ := H.out
          rw [powP_zero] at hP
          exact retPw_ok HE.out HU.out (hP.trans HPP.out.symm) hoc hso (hbel3.trans (hbel.mono hw3z))
        · obtain ⟨k', rfl⟩ : ∃ k', k = k' + 1 := ⟨k - 1, by
            rcases Nat.eq_zero_or_pos k with h | h
            · subst h; omega
            · omega⟩
          have hP2 : powP m nb b iv k' (n' / 2) (if n' % 2 = 1 then restP m nb b iv (prodP m (no, fo) (nx, fx)) else (no, fo)) (restP m nb b iv (prodP m (nx, fx) (nx, fx))) = P0 := by rw [← hP, powP_succ, if_neg h0]
          have hpow : n' / 2 < 2 ^ k' := by rw [Nat.pow_succ] at hk; omega
          have hzm := HC4.out
          have cm := (hbel.cell (p := ⟨w.heap.size, 0, none⟩) (by show w.heap.size < w3.heap.size; omega)).trans hzm
          have H := Lib.hid (And.intro hso (And.intro hsx (And.intro hro (And.intro hrx (And.intro hP2 (And.intro hbel hpow))))))
          have hgt : decide ((n' : Int) > 0) = true := decide_eq_true (by omega)
          clear hso hsx hro hrx hP hP2 hbel hk hpow hzm
          have hodm := Nat.mod_lt n' (show 0 < 2 by omega)
          by_cases hod : n' % 2 = 1
          · have hodi : ((n' : Int) % 2 == 1) = true := by simp; omega
            have HOD := Lib.hid hod
            clear hod
            go_wp2_with fail
            refine (product_any m no nx co cx Ao Ax fo fx wr _ _ H.out.1 H.out.2.1 (by omega) m2 H.out.2.2.1.1 H.out.2.2.2.1.1 (by omega) (by omega) (Nat.le_refl _)).mono ?_
            rintro e w5 ⟨D1, c1, rfl, d1, d2, d3⟩
            obtain ⟨p1, p2⟩ := res_prod H.out.2.2.1 H.out.2.2.2.1 (show 0 < m by omega)
            have hy5 := d3.size
            have hbx5 := H.out.2.2.2.2.2.1.trans (d3.mono hzr)
            have D := Lib.hid (And.intro d2 (And.intro p1 (And.intro d3 hbx5)))
            clear p1 d2 d3 hbx5
            go_wp2_with fail
            refine (HRS.out _ c1 D1 _ w5 D.out.2.2.2 (D.out.1.wide (Nat.zero_le _) (Nat.le_refl _)) D.out.2.1 (Nat.le_trans p2 (show no + nx ≤ 2000 by omega))).mono ?_
            rintro e w6 ⟨n6, c6, D6, f6, rfl, g1, g2, g3, g4, g5, g6⟩
            have hy6 := g6.size
            have hbx6 := D.out.2.2.2.trans (g6.mono (by omega))
            have hb56 := D.out.2.2.1.trans (g6.mono hy5)
            have G := Lib.hid (And.intro g1 (And.intro g2 (And.intro g5 (And.intro hbx6 hb56))))
            have cm6 := (hbx6.cell (p := ⟨w.heap.size, 0, none⟩) (by show w.heap.size < w3.heap.size; omega)).trans HC4.out
            clear g1 g2 g5 g6 hbx6 hb56 D p2 d1
            go_wp2_with fail
            refine (product_any m nx nx cx cx Ax Ax fx fx w6 _ _ (H.out.2.1.below G.out.2.2.2.2 (Nat.le_refl _)) (H.out.2.1.below G.out.2.2.2.2 (Nat.le_refl _)) (by omega) m2 H.out.2.2.2.1.1 H.out.2.2.2.1.1 (by omega) (by omega) (by omega)).mono ?_
            rintro e w7 ⟨D7, c7, rfl, d1, d2, d3⟩
            obtain ⟨p1, p2⟩ := res_prod H.out.2.2.2.1 H.out.2.2.2.1 (show 0 < m by omega)
            have hy7 := d3.size
            have hbx7 := G.out.2.2.2.1.trans (d3.mono (by omega))
            have D := Lib.hid (And.intro d2 (And.intro p1 (And.intro d3 hbx7)))
            clear p1 d2 d3 hbx7 cm6 cm
            go_wp2_with fail
            refine (HRS.out _ c7 D7 _ w7 D.out.2.2.2 (D.out.1.wide (Nat.zero_le _) (Nat.le_refl _)) D.out.2.1 (Nat.le_trans p2 (show nx + nx ≤ 2000 by omega))).mono ?_
            rintro e w8 ⟨n8, c8, D8, f8, rfl, k1, k2, k3, k4, k5, k6⟩
            have hy8 := k6.size
            have hbx8 := D.out.2.2.2.trans (k6.mono (by omega))
            have hb78 := D.out.2.2.1.trans (k6.mono hy7)
            have K := Lib.hid (And.intro k1 (And.intro k2 (And.intro k5 (And.intro hbx8 hb78))))
            clear k1 k2 k5 k6 hbx8 hb78 D p2 d1
            go_wp2
            go_roundw
            case rel =>
              refine ⟨k', n' / 2, n6, c6, n8, c8, f6, f8, D6, D8, by go_num, H.out.2.2.2.2.2.2, by omega, rfl, rfl, g4, (G.out.2.2.1.below K.out.2.2.2.2 (Nat.le_refl _)).wide (by omega) (by omega), K.out.2.2.1.wide (by omega) (Nat.le_refl _), G.out.2.1, K.out.2.1, g3, k3, ?_, K.out.2.2.2.1⟩
              have hP := H.out.2.2.2.2.1
              rw [if_pos HOD.out] at hP
              rw [G.out.1, K.out.1]
              exact hP
            case measure => simp [intOf]; omega
          · have hodi : ((n' : Int) % 2 == 1) = false := by simp; omega
            have HOD := Lib.hid hod
            clear hod
            go_wp2_with fail
            refine (product_any m nx nx cx cx Ax Ax fx fx wr _ _ H.out.2.1 H.out.2.1 (by omega) m2 H.out.2.2.2.1.1 H.out.2.2.2.1.1 (by omega) (by omega) (Nat.le_refl _)).mono ?_
            rintro e w7 ⟨D7, c7, rfl, d1, d2, d3⟩
            obtain ⟨p1, p2⟩ := res_prod H.out.2.2.2.1 H.out.2.2.2.1 (show 0 < m by omega)
            have hy7 := d3.size
            have hbx7 := H.out.2.2.2.2.2.1.trans (d3.mono (by omega))
            have D := Lib.hid (And.intro d2 (And.intro p1 (And.intro d3 hbx7)))
            clear p1 d2 d3 hbx7 cm
            go_wp2_with fail
            refine (HRS.out _ c7 D7 _ w7 D.out.2.2.2 (D.out.1.wide (Nat.zero_le _) (Nat.le_refl _)) D.out.2.1 (Nat.le_trans p2 (show nx + nx ≤ 2000 by omega))).mono ?_
            rintro e w8 ⟨n8, c8, D8, f8, rfl, k1, k2, k3, k4, k5, k6⟩
            have hy8 := k6.size
            have hbx8 := D.out.2.2.2.trans (k6.mono (by omega))
            have hb78 := D.out.2.2.1.trans (k6.mono hy7)
            have K := Lib.hid (And.intro k1 (And.intro k2 (And.intro k5 (And.intro hbx8 hb78))))
            clear k1 k2 k5 k6 hbx8 hb78 D p2 d1
            go_wp2
            go_roundw
            case rel =>
              refine ⟨k', n' / 2, no, co, n8, c8, fo, f8, Ao, D8, by go_num, H.out.2.2.2.2.2.2, by omega, rfl, rfl, hoc, (H.out.1.below K.out.2.2.2.2 (Nat.le_refl _)).wide (by omega) (by omega), K.out.2.2.1.wide (by omega) (Nat.le_refl _), H.out.2.2.1, K.out.2.1, hno, k3, ?_, K.out.2.2.2.1⟩
              have hP := H.out.2.2.2.2.1
              rw [if_neg HOD.out] at hP
              rw [K.out.1]
              exact hP
            case measure => simp [intOf]; omega
  · obtain ⟨x, hx⟩ : ∃ x, chk2 m n a nb b = x := ⟨_, rfl⟩
    have hE : dvE m n a nb b = x := by unfold dvE; rw [if_neg hc, hx]
    rw [hx] at HV hc
    have hxz : ((x : Int) != 0) = true := by simp; omega
    have HE := Lib.hid hE
    clear hx ha hb hE
    go_enter Try.func33, Try.ntmps33
    go_wp2_with fail
    rw [← HW.out]
    refine (HV.out _ _ rfl rfl).mono ?_
    rintro e w1 ⟨rfl, hbel1⟩
    go_wp2
    go_ret2
    obtain ⟨_, _, hbel0, hz0⟩ := HC3.out
    exact retPw_err HE.out hc (hbel0.trans (hbel1.mono (by omega)))
end Go.Proofs.Ytoifjkandmnakaa
