/- The contract of the reference's Gcd. -/
import Derived.Test.YtoifjkandmnakaaGcd
namespace Go.Proofs.Ytoifjkandmnakaa
open Go.RowKit

theorem rprime05_any (n : Nat) (w : World) (hn : n ≤ 4294967295) : Calls Try.prog 43 #[.int .u32 n] w (RetP w (.bool (prB n))) := by
  have H := Lib.hid (rprime_any n w hn)
  go_enter Try.func43, Try.ntmps43
  go_wp2_with fail
  refine H.out.mono ?_
  rintro r w1 ⟨rfl, rfl⟩
  go_wp2
  go_ret
  exact ⟨rfl, rfl⟩

set_option maxHeartbeats 2000000 in
theorem rgcd_any (m n nb ca cb : Nat) (A B : Option Addr) (a b : Nat → Nat) (w : World) (hi : Nat) (ha : Sq .u32 w 0 hi A n a) (hb : Sq .u32 w 0 hi B nb b) (hhi : hi ≤ w.heap.size) (hm : m ≤ 4294967295) (hn : n ≤ 9223372036854775807) (hnb : nb ≤ 9223372036854775807) :
    Calls Try.prog 42 #[.int .u32 m, .slice A n ca, .slice B nb cb] w (RetGc w m n a nb b) := by
  have HP := Lib.hid (rprime05_any m w hm)
  cases hpr : prB m
  · have hE : gcE m n a nb b = 2 := by unfold gcE; rw [hpr]; rfl
    have HE := Lib.hid hE
    rw [hpr] at HP
    clear hpr hE
    go_enter Try.func42, Try.ntmps42
    go_wp2_with fail
    refine HP.out.mono ?_
    rintro e w1 ⟨rfl, rfl⟩
    go_wp2
    go_ret2
    exact retGc_err HE.out (by decide) (Below.refl _ _)
  have hE0 : gcE m n a nb b = chk2 m n a nb b := by unfold gcE; rw [hpr]; rfl
  have hprime := prB_true.1 hpr
  rw [hpr] at HP
  clear hpr
  have HA := Lib.hid (And.intro ha hb)
  have HV := Lib.hid (both_any m n nb ca cb A B a b w 0 hi 0 hi ha hb hn hnb hhi)
  by_cases hc : chk2 m n a nb b = 0
  · have HE := Lib.hid (hE0.trans hc)
    have HC := Lib.hid hc
    obtain ⟨hc1, hc2⟩ := chk2_zero hc
    obtain ⟨m1, m2, n1, _, n3⟩ := chk_zero hc1
    obtain ⟨_, _, b1, _, b3⟩ := chk_zero hc2
    have HRA := Lib.hid (show Res m (n, a) from ⟨vals_lt hc1 ha.1, ha.1, tl_of_last n3⟩)
    have HRB := Lib.hid (show Res m (nb, b) from ⟨vals_lt hc2 hb.1, hb.1, tl_of_last b3⟩)
    have HPR := Lib.hid hprime
    rw [hc] at HV
    clear hc hE0 hc1 hc2 n3 b3 ha hb hprime
    go_enter Try.func42, Try.ntmps42
    go_wp2_with fail
    refine HP.out.mono ?_
    rintro e w1 ⟨rfl, rfl⟩
    go_wp2_with fail
    refine HV.out.mono ?_
    rintro e w2 ⟨rfl, hb2⟩
    have hz2 := hb2.size
    go_wp2_with fail
    obtain ⟨P0, hP0⟩ : ∃ P0, gcdP m 301 (n, a) (nb, b) = P0 := ⟨_, rfl⟩
    have hPe := hP0
    have HS4 := Lib.hid (And.intro (HA.out.1.below hb2 hhi) (HA.out.2.below hb2 hhi))
    go_loopw [9, 10] (fun X Y wr => ∃ (k nx cx ny cy : Nat) (fx fy : Nat → Nat) (Ax Ay : Option Addr), X = .slice Ax nx cx ∧ Y = .slice Ay ny cy ∧ Sq .u32 wr 0 wr.heap.size Ax nx fx ∧ Sq .u32 wr 0 wr.heap.size Ay ny fy ∧
      Res m (nx, fx) ∧ Res m (ny, fy) ∧ nx ≤ 256 ∧ ny ≤ 256 ∧ ny < k ∧ gcdP m k (nx, fx) (ny, fy) = P0 ∧ Below w2.heap.size w2 wr) (fun _ Y _ => match Y with | .slice _ k _ => k | _ => 0)
    case atStart =>
      obtain ⟨g1, g2⟩ := HS4.out
      exact ⟨301, n, ca, nb, cb, a, b, A, B, rfl, rfl, g1.wide (Nat.le_refl _) (by omega), g2.wide (Nat.le_refl _) (by omega), HRA.out, HRB.out, n1, b1, by omega, hP0, Below.refl _ _⟩
    case round =>
      clear HS4 hP0 HRA HRB
      obtain ⟨k, nx, cx, ny, cy, fx, fy, Ax, Ay, rfl, rfl, hsx, hsy, hrx, hry, hnx, hny, hk, hP, hbel⟩ := hrel
      have hzr := hbel.size
      by_cases h0 : ny = 0
      · subst h0
        rw [gcdP_zero rfl] at hP
        by_cases hx0 : nx = 0
        · subst hx0
          have hG : gcdF m n a nb b = (0, fun _ => 0) := by
            unfold gcdF
            rw [hPe, ← hP]
            rfl
          have HG := Lib.hid hG
          have hun := leads_any m 0 cx Ax fx wr _ _ hsx (by omega) m1 m2 (hrx.1 _)
          rw [unitF_nil] at hun
          have HUN := Lib.hid hun
          have HB := Lib.hid hbel
          clear hG hun hsx hsy hrx hry hP hbel
          go_wp2_with fail
          refine HUN.out.mono ?_
          rintro e w5 ⟨rfl, rfl⟩
          go_wp2
          go_ret2
          exact retGc_ok HE.out HG.out (Nat.zero_le _) (Sq.nil _ _ _ _ _) (hb2.trans (HB.out.mono hz2))
        · obtain ⟨iv, hu, hiv, hinv⟩ := unit_prime HPR.out hrx (by omega)
          have hG : gcdF m n a nb b = prodP m (nx, fx) (1, oneF iv) := by
            unfold gcdF
            rw [hPe, ← hP]
            show (if nx = 0 then _ else prodP m (nx, fx) (1, oneF (unitF m nx fx).1)) = _
            rw [if_neg hx0, hu]
          have HG := Lib.hid hG
          have hun := leads_any m nx cx Ax fx wr _ _ hsx (by omega) m1 m2 (hrx.1 _)
          rw [hu] at hun
          have HUN := Lib.hid hun
          have HB := Lib.hid (And.intro hbel (And.intro hsx hrx))
          clear hG hun hsx hsy hrx hry hP hbel hu hinv
          go_wp2_with fail
          refine HUN.out.mono ?_
          rintro e w5 ⟨rfl, hw5⟩
          subst hw5
          go_wp2_with fail
          obtain ⟨w5, hw5⟩ : ∃ w5, w5 = wr := ⟨_, rfl⟩
          subst hw5
          have hb6 : Below w5.heap.size w5 (w5.alloc (.cells #[.int .u32 (iv : Int)] 22)) := (Below.refl _ _).alloc (Nat.le_refl _) _
          have hs6 : Sq .u32 (w5.alloc (.cells #[.int .u32 (iv : Int)] 22)) 0 (w5.heap.size + 1) (some ⟨w5.heap.size, 0, none⟩) 1 (oneF iv) := sq_one rfl (Nat.zero_le _) (Nat.lt_succ_self _)
          have hone : ∀ j, oneF iv j < m := fun j => by unfold oneF; split <;> omega
          refine (times_any m nx 1 cx 1 Ax _ fx (oneF iv) (w5.alloc (.cells #[.int .u32 (iv : Int)] 22)) 0 w5.heap.size 0 (w5.heap.size + 1) (HB.out.2.1.below hb6 (Nat.le_refl _)) hs6 (by omega) m2 HB.out.2.2.1 hone (by omega) (by omega) (by rw [World.size_alloc]; omega) (by rw [World.size_alloc]; exact Nat.le_refl _)).mono ?_
          rintro e w7 ⟨A7, c7, rfl, h1, h2, h3⟩
          have HQ := Lib.hid (And.intro h1 (And.intro h2 h3))
          clear h1 h2 h3 hone hs6 hb6
          go_wp2
          go_ret2
          have hz7 := HQ.out.2.2.size
          rw [World.size_alloc] at hz7
          have hbel7 : Below w5.heap.size w5 w7 := ((Below.refl w5.heap.size w5).alloc (Nat.le_refl _) _).trans (HQ.out.2.2.mono (by rw [World.size_alloc]; omega))
          exact retGc_ok HE.out HG.out HQ.out.1 (HQ.out.2.1.wide (by rw [World.size_alloc]; omega) (Nat.le_refl _)) (hb2.trans ((HB.out.1.trans (hbel7.mono hzr)).mono hz2))
      · obtain ⟨k', rfl⟩ : ∃ k', k = k' + 1 := ⟨k - 1, by omega⟩
        obtain ⟨iv, hu, hiv, hinv⟩ := unit_prime HPR.out hry (by omega)
        rw [gcdP_succ h0] at hP
        have hP' : gcdP m k' (ny, fy) (restP m ny fy iv (nx, fx)) = P0 := by
          rw [← hP]
          show gcdP m k' (ny, fy) (restP m ny fy iv (nx, fx)) = gcdP m k' (ny, fy) (restP m ny fy (unitF m ny fy).1 (nx, fx))
          rw [hu]
        obtain ⟨r1, r2, r3⟩ := res_rest (iv := iv) (b := fy) (nb := ny) hrx (by omega) (by omega) hinv hry.2.1
        have hun := leads_any m ny cy Ay fy wr _ _ hsy (by omega) m1 m2 (hry.1 _)
        rw [hu] at hun
        have HUN := Lib.hid hun
        have HINV := Lib.hid hinv
        have H := Lib.hid (And.intro hsx (And.intro hsy (And.intro hrx (And.intro hry (And.intro hP' (And.intro hbel r1))))))
        have r2' : (restP m ny fy iv (nx, fx)).1 < ny := r2
        have r3' : (restP m ny fy iv (nx, fx)).1 ≤ nx := r3
        clear hun hsx hsy hrx hry hP hP' hbel r1 r2 r3 hu hinv
        go_wp2_with fail
        refine HUN.out.mono ?_
        rintro e w5 ⟨rfl, hw5⟩
        subst hw5
        go_wp2_with fail
        obtain ⟨w5, hw5⟩ : ∃ w5, w5 = wr := ⟨_, rfl⟩
        subst hw5
        refine (split_any m iv nx ny cx cy Ax Ay fx fy w5 _ _ _ _ H.out.1 H.out.2.1 (by omega) m2 hiv H.out.2.2.1.1 H.out.2.2.2.1.1 (by omega) (by omega) (Nat.le_refl _) (by omega) HINV.out H.out.2.2.1.2.2).mono ?_
        rintro e w6 ⟨A1, c1, A2, c2, rfl, _, g2, _, g4, g5⟩
        have hz6 := g5.size
        have HQ := Lib.hid (And.intro g4 g5)
        obtain ⟨T, hT⟩ : ∃ T, tl (dR m ny fy iv (dL nx ny) fx) nx = T := ⟨_, rfl⟩
        have hT2 : T < ny := by rw [← hT]; exact r2'
        have hT3 : T ≤ nx := by rw [← hT]; exact r3'
        have HT := Lib.hid hT
        rw [hT] at g2
        clear g4 g5 r2' r3'
        rw [hT]
        clear hT
        go_wp2
        go_roundw
        case rel =>
          have e1 : restP m ny fy iv (nx, fx) = (T, dR m ny fy iv (dL nx ny) fx) := by rw [← HT.out]; rfl
          have hP := H.out.2.2.2.2.1
          have hr := H.out.2.2.2.2.2.2
          have hs := HQ.out.1
          rw [e1] at hP hr
          rw [HT.out] at hs
          exact ⟨k', ny, cy, T, c2, fy, _, Ay, A2, rfl, rfl, (H.out.2.1.below HQ.out.2 (Nat.le_refl _)).wide (Nat.le_refl _) (by omega), hs.wide (Nat.zero_le _) (Nat.le_refl _), H.out.2.2.2.1, hr, hny, by omega, by omega, hP, H.out.2.2.2.2.2.1.trans (HQ.out.2.mono hzr)⟩
        case measure => simpa using hT2
  · obtain ⟨x, hx⟩ : ∃ x, chk2 m n a nb b = x := ⟨_, rfl⟩
    have HE := Lib.hid (hE0.trans hx)
    rw [hx] at hc HV
    have hxz : ((x : Int) != 0) = true := by simp; omega
    clear hx ha hb hE0 hprime
    go_enter Try.func42, Try.ntmps42
    go_wp2_with fail
    refine HP.out.mono ?_
    rintro e w1 ⟨rfl, rfl⟩
    go_wp2_with fail
    refine HV.out.mono ?_
    rintro e w2 ⟨rfl, hb2⟩
    go_wp2
    go_ret2
    exact retGc_err HE.out hc hb2
end Go.Proofs.Ytoifjkandmnakaa
