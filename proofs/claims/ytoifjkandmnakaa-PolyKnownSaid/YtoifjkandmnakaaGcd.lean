/- The contract of poly.Gcd. -/
import Derived.Test.YtoifjkandmnakaaGcdPlain
import Derived.Test.YtoifjkandmnakaaPrimeP
namespace Go.Proofs.Ytoifjkandmnakaa
open Go.RowKit

noncomputable def gcE (m n : Nat) (a : Nat → Nat) (nb : Nat) (b : Nat → Nat) : Nat := if prB m = true then chk2 m n a nb b else 2
noncomputable def gcV (m n : Nat) (a : Nat → Nat) (nb : Nat) (b : Nat → Nat) : Nat × (Nat → Nat) := if gcE m n a nb b = 0 then gcdF m n a nb b else (0, fun _ => 0)
noncomputable def RetGc (w : World) (m n : Nat) (a : Nat → Nat) (nb : Nat) (b : Nat → Nat) : Ending → World → Prop := RetSlE w (gcV m n a nb b).1 (gcV m n a nb b).2 (gcE m n a nb b)

theorem retGc_err {w w' : World} {m n nb x : Nat} {a b : Nat → Nat} (hx : gcE m n a nb b = x) (h0 : x ≠ 0) (hb : Below w.heap.size w w') : RetGc w m n a nb b (.returned (.tuple #[.slice none 0 0, .int .i64 (x : Int)])) w' := by
  have e1 : gcV m n a nb b = (0, fun _ => 0) := by unfold gcV; rw [hx, if_neg h0]
  unfold RetGc
  rw [e1, hx]
  exact ⟨none, 0, rfl, Nat.le_refl _, Sq.nil _ _ _ _ _, hb⟩
theorem retGc_ok {w w' : World} {m n nb k c : Nat} {a b f : Nat → Nat} {A : Option Addr} (hE : gcE m n a nb b = 0) (hP : gcdF m n a nb b = (k, f)) (hkc : k ≤ c) (hs : Sq .u32 w' w.heap.size w'.heap.size A k f) (hb : Below w.heap.size w w') :
    RetGc w m n a nb b (.returned (.tuple #[.slice A k c, .int .i64 0])) w' := by
  have e1 : gcV m n a nb b = (k, f) := by unfold gcV; rw [if_pos hE, hP]
  unfold RetGc
  rw [e1, hE]
  exact ⟨A, c, rfl, hkc, hs, hb⟩

theorem Own.empty {k : IntKind} {w : World} {base e : Nat} (h : base ≤ w.heap.size) : Own k (w.alloc (.cells #[] e)) base e (some ⟨w.heap.size, 0, none⟩) 0 0 (fun _ => 0) :=
  ⟨fun _ _ => rfl, rfl, .inr ⟨w.heap.size, 0, #[], rfl, h, by show (w.heap.push _)[w.heap.size]? = _; simp, Nat.le_refl _, Nat.zero_le _, rfl, rfl⟩⟩

set_option maxHeartbeats 2000000 in
theorem gcd_any (m n nb ca cb : Nat) (A B : Option Addr) (a b : Nat → Nat) (w : World) (ha : Sq .u32 w 0 w.heap.size A n a) (hb : Sq .u32 w 0 w.heap.size B nb b) (hm : m ≤ 4294967295) (hn : n ≤ 9223372036854775807) (hnb : nb ≤ 9223372036854775807) :
    Calls Try.prog 41 #[.int .u32 m, .slice A n ca, .slice B nb cb] w (RetGc w m n a nb b) := by
  have HP := Lib.hid (prime_any m w hm)
  cases hpr : prB m
  · have hE : gcE m n a nb b = 2 := by unfold gcE; rw [hpr]; rfl
    have HE := Lib.hid hE
    rw [hpr] at HP
    clear hpr hE
    go_enter Try.func41, Try.ntmps41
    go_wp2_with fail
    refine HP.out.mono ?_
    rintro e w1 ⟨rfl, hb1⟩
    go_wp2
    go_ret2
    exact retGc_err HE.out (by decide) hb1
  have hE0 : gcE m n a nb b = chk2 m n a nb b := by unfold gcE; rw [hpr]; rfl
  have hprime := prB_true.1 hpr
  rw [hpr] at HP
  clear hpr
  by_cases hmm : 2147483647 < m
  · have hE : gcE m n a nb b = 2 := by rw [hE0]; unfold chk2; rw [chk_m (.inr hmm)]; rfl
    have HE := Lib.hid hE
    have hd : decide ((m : Int) > 2147483647) = true := decide_eq_true (by omega)
    clear hE hE0
    go_enter Try.func41, Try.ntmps41
    go_wp2_with fail
    refine HP.out.mono ?_
    rintro e w1 ⟨rfl, hb1⟩
    go_wp2
    go_ret2
    exact retGc_err HE.out (by decide) hb1
  have hd : decide ((m : Int) > 2147483647) = false := decide_eq_false (by omega)
  have HA := Lib.hid (And.intro ha hb)
  by_cases hc : chk2 m n a nb b = 0
  · have HE := Lib.hid (hE0.trans hc)
    have HC := Lib.hid hc
    obtain ⟨hc1, hc2⟩ := chk2_zero hc
    obtain ⟨m1, m2, n1, _, n3⟩ := chk_zero hc1
    obtain ⟨_, _, b1, _, b3⟩ := chk_zero hc2
    have HRA := Lib.hid (show Res m (n, a) from ⟨vals_lt hc1 ha.1, ha.1, tl_of_last n3⟩)
    have HRB := Lib.hid (show Res m (nb, b) from ⟨vals_lt hc2 hb.1, hb.1, tl_of_last b3⟩)
    have HPR := Lib.hid hprime
    clear hc hE0 hc1 hc2 n3 b3 ha hb hprime
    go_enter Try.func41, Try.ntmps41
    go_wp2_with fail
    refine HP.out.mono ?_
    rintro e w1 ⟨rfl, hb1⟩
    have hz1 := hb1.size
    have HV := Lib.hid (valid2_call m n nb ca cb A B a b w1 0 w.heap.size (HA.out.1.below hb1 (Nat.le_refl _)) (HA.out.2.below hb1 (Nat.le_refl _)) hn hnb hz1)
    rw [HC.out] at HV
    go_wp2_with fail
    refine (HV.out _ rfl).mono ?_
    rintro e w2 ⟨rfl, hb2⟩
    have hb02 := hb1.trans (hb2.mono hz1)
    have hz2 := hb02.size
    have HA2 := Lib.hid (And.intro ((HA.out.1.below hb02 (Nat.le_refl _)).wide (Nat.le_refl _) hz2) ((HA.out.2.below hb02 (Nat.le_refl _)).wide (Nat.le_refl _) hz2))
    go_wp2_with (first
      | (at_builtin; refine wpl_append rfl (.tmp 32) (.tmp 33) _ rfl e32 rfl (Own.empty (base := w2.heap.size) (Nat.le_refl _)) rfl (HA2.out.1.below ((Below.refl w2.heap.size w2).alloc (Nat.le_refl _) _) (Nat.le_refl _)) a (fun j h => absurd h (Nat.not_lt_zero j)) (fun j => by rw [Nat.zero_add]) (by unfold maxLen; omega) (by omega) (by simp) ?_; intro A3 c3 w3 hown3 hg3 hb3 hat3; rw [Nat.zero_add] at hown3)
      | (at_builtin; refine wpl_append rfl (.tmp 35) (.tmp 36) _ rfl e32 rfl (Own.empty (base := w2.heap.size) (by have := hb3.size; simp at this; omega)) rfl ((HA2.out.2.below (((Below.refl w2.heap.size w2).alloc (Nat.le_refl _) _).trans (hb3.mono (by simp))) (Nat.le_refl _)).below ((Below.refl w3.heap.size w3).alloc (Nat.le_refl _) _) (by have := hb3.size; simp at this; omega)) b (fun j h => absurd h (Nat.not_lt_zero j)) (fun j => by rw [Nat.zero_add]) (by unfold maxLen; omega) (by omega) (by have := hb3.size; simp at this ⊢; omega) ?_; intro A4 c4 w4 hown4 hg4 hb4 hat4; rw [Nat.zero_add] at hown4))
    have hz3 := hb3.size
    have hz4 := hb4.size
    rw [World.size_alloc] at hz3 hz4
    have hsa := ((hown3.sq (Nat.le_refl _)).below ((Below.refl w3.heap.size w3).alloc (Nat.le_refl _) (.cells #[] 22)) (Nat.le_refl _)).grown hg4 (.inr (Nat.le_refl _)) (by rw [World.size_alloc]; omega)
    have hsb := hown4.sq (Nat.le_refl _)
    have hca := hown3.le
    have hcb := hown4.le
    have hbel4 : Below w2.heap.size w2 w4 := ((((Below.refl w2.heap.size w2).alloc (Nat.le_refl _) _).trans hb3).alloc (by omega) _).trans hb4
    have HS4 := Lib.hid (And.intro (hsa.wide (Nat.le_refl _) (show w3.heap.size ≤ w4.heap.size by omega)) (And.intro hsb hbel4))
    clear hown3 hown4 hg3 hb3 hat3 hg4 hb4 hat4 hsa hsb hbel4
    obtain ⟨P0, hP0⟩ : ∃ P0, gcdP m 301 (n, a) (nb, b) = P0 := ⟨_, rfl⟩
    have HP0 := Lib.hid hP0
    have hPe := hP0
    go_loopw [9, 10] (fun X Y wr => ∃ (k nx cx ny cy : Nat) (fx fy : Nat → Nat) (Ax Ay : Option Addr), X = .slice Ax nx cx ∧ Y = .slice Ay ny cy ∧ nx ≤ cx ∧ ny ≤ cy ∧ Sq .u32 wr w2.heap.size wr.heap.size Ax nx fx ∧ Sq .u32 wr w2.heap.size wr.heap.size Ay ny fy ∧
      Res m (nx, fx) ∧ Res m (ny, fy) ∧ nx ≤ 256 ∧ ny ≤ 256 ∧ ny < k ∧ gcdP m k (nx, fx) (ny, fy) = P0 ∧ Below w2.heap.size w2 wr) (fun _ Y _ => match Y with | .slice _ k _ => k | _ => 0)
    case atStart =>
      obtain ⟨g1, g2, g3⟩ := HS4.out
      exact ⟨301, n, c3, nb, c4, a, b, A3, A4, rfl, rfl, hca, hcb, g1, g2, HRA.out, HRB.out, n1, b1, by omega, HP0.out, g3⟩
    case round =>
      clear HS4 HP0 hP0 hca hcb hz3 hz4 HA2 HRA HRB
      obtain ⟨k, nx, cx, ny, cy, fx, fy, Ax, Ay, rfl, rfl, hcx, hcy, hsx, hsy, hrx, hry, hnx, hny, hk, hP, hbel⟩ := hrel
      have hzr := hbel.size
      by_cases h0 : ny = 0
      · subst h0
        rw [gcdP_zero rfl] at hP
        by_cases hx0 : nx = 0
        · subst hx0
          have hfx : fx = fun _ => 0 := funext fun j => hsx.1 j (Nat.zero_le j)
          have hG : gcdF m n a nb b = (0, fun _ => 0) := by
            unfold gcdF
            rw [hPe, ← hP]
            rfl
          have HG := Lib.hid hG
          have hun := unit_any m 0 cx Ax fx wr _ _ hsx (by omega) m1 m2 (hrx.1 _)
          rw [unitF_nil] at hun
          have HUN := Lib.hid hun
          have HB := Lib.hid hbel
          clear hG hun hsx hsy hrx hry hP hbel hfx
          go_wp2_with fail
          refine HUN.out.mono ?_
          rintro e w5 ⟨rfl, hb5⟩
          go_wp2
          go_ret2
          exact retGc_ok HE.out HG.out (Nat.zero_le _) (Sq.nil _ _ _ _ _) (hb02.trans ((HB.out.trans (hb5.mono hzr)).mono hz2))
        · obtain ⟨iv, hu, hiv, hinv⟩ := unit_prime HPR.out hrx (by omega)
          have hG : gcdF m n a nb b = prodP m (nx, fx) (1, oneF iv) := by
            unfold gcdF
            rw [hPe, ← hP]
            show (if nx = 0 then _ else prodP m (nx, fx) (1, oneF (unitF m nx fx).1)) = _
            rw [if_neg hx0, hu]
          have HG := Lib.hid hG
          have hun := unit_any m nx cx Ax fx wr _ _ hsx (by omega) m1 m2 (hrx.1 _)
          rw [hu] at hun
          have HUN := Lib.hid hun
          have HB := Lib.hid (And.intro hbel (And.intro hsx hrx))
          clear hG hun hsx hsy hrx hry hP hbel hu hinv
          go_wp2_with fail
          refine HUN.out.mono ?_
          rintro e w5 ⟨rfl, hb5⟩
          have hz5 := hb5.size
          go_wp2_with fail
          have hb6 : Below w5.heap.size w5 (w5.alloc (.cells #[.int .u32 (iv : Int)] 22)) := (Below.refl _ _).alloc (Nat.le_refl _) _
          have hs6 : Sq .u32 (w5.alloc (.cells #[.int .u32 (iv : Int)] 22)) 0 (w5.heap.size + 1) (some ⟨w5.heap.size, 0, none⟩) 1 (oneF iv) := sq_one rfl (Nat.zero_le _) (Nat.lt_succ_self _)
          have hone : ∀ j, oneF iv j < m := fun j => by unfold oneF; split <;> omega
          refine (product_any m nx 1 cx 1 Ax _ fx (oneF iv) (w5.alloc (.cells #[.int .u32 (iv : Int)] 22)) 0 (w5.heap.size + 1) ((((HB.out.2.1.below hb5 (Nat.le_refl _)).below hb6 hz5)).wide (Nat.zero_le _) (by omega)) hs6 (by omega) m2 HB.out.2.2.1 hone (by omega) (by omega) (by rw [World.size_alloc]; exact Nat.le_refl _)).mono ?_
          rintro e w7 ⟨A7, c7, rfl, h1, h2, h3⟩
          have HQ := Lib.hid (And.intro h1 (And.intro h2 h3))
          clear h1 h2 h3 hone hs6 hb6
          go_wp2
          go_ret2
          have hz7 := HQ.out.2.2.size
          rw [World.size_alloc] at hz7
          have hbel7 : Below w5.heap.size w5 w7 := ((Below.refl w5.heap.size w5).alloc (Nat.le_refl _) _).trans (HQ.out.2.2.mono (by rw [World.size_alloc]; omega))
          exact retGc_ok HE.out HG.out HQ.out.1 (HQ.out.2.1.wide (by rw [World.size_alloc]; omega) (Nat.le_refl _)) (hb02.trans ((HB.out.1.trans ((hb5.trans (hbel7.mono hz5)).mono hzr)).mono hz2))
      · obtain ⟨k', rfl⟩ : ∃ k', k = k' + 1 := ⟨k - 1, by omega⟩
        obtain ⟨iv, hu, hiv, hinv⟩ := unit_prime HPR.out hry (by omega)
        rw [gcdP_succ h0] at hP
        have hP' : gcdP m k' (ny, fy) (restP m ny fy iv (nx, fx)) = P0 := by
          rw [← hP]
          show gcdP m k' (ny, fy) (restP m ny fy iv (nx, fx)) = gcdP m k' (ny, fy) (restP m ny fy (unitF m ny fy).1 (nx, fx))
          rw [hu]
        obtain ⟨r1, r2, r3⟩ := res_rest (iv := iv) (b := fy) (nb := ny) hrx (by omega) (by omega) hinv hry.2.1
        have hun := unit_any m ny cy Ay fy wr _ _ hsy (by omega) m1 m2 (hry.1 _)
        rw [hu] at hun
        have HUN := Lib.hid hun
        have H := Lib.hid (And.intro hsx (And.intro hsy (And.intro hrx (And.intro hry (And.intro hP' (And.intro hbel r1))))))
        have r2' : (restP m ny fy iv (nx, fx)).1 < ny := r2
        have r3' : (restP m ny fy iv (nx, fx)).1 ≤ nx := r3
        clear hun hsx hsy hrx hry hP hP' hbel r1 r2 r3 hu hinv
        go_wp2_with fail
        refine HUN.out.mono ?_
        rintro e w5 ⟨rfl, hb5⟩
        have hz5 := hb5.size
        go_wp2_with fail
        refine (divide_any m iv nx ny cx cy Ax Ay fx fy w5 _ _ (H.out.1.below hb5 (Nat.le_refl _)) (H.out.2.1.below hb5 (Nat.le_refl _)) (by omega) m2 hiv H.out.2.2.1.1 H.out.2.2.2.1.1 (by omega) (by omega) hz5 (by omega)).mono ?_
        rintro e w6 ⟨A1, c1, A2, c2, rfl, _, g2, _, g4, g5⟩
        have hz6 := g5.size
        have HQ := Lib.hid (And.intro g4 g5)
        obtain ⟨T, hT⟩ : ∃ T, tl (dR m ny fy iv (dL nx ny) fx) nx = T := ⟨_, rfl⟩
        have hT2 : T < ny := by rw [← hT]; exact r2'
        have hT3 : T ≤ nx := by rw [← hT]; exact r3'
        have HT := Lib.hid hT
        rw [hT] at g2
        clear g4 g5 r2' r3'
        rw [hT]
        clear hT
        go_wp2
        go_roundw
        case rel =>
          have e1 : restP m ny fy iv (nx, fx) = (T, dR m ny fy iv (dL nx ny) fx) := by rw [← HT.out]; rfl
          have hP := H.out.2.2.2.2.1
          have hr := H.out.2.2.2.2.2.2
          have hs := HQ.out.1
          rw [e1] at hP hr
          rw [HT.out] at hs
          exact ⟨k', ny, cy, T, c2, fy, _, Ay, A2, rfl, rfl, hcy, g2, ((H.out.2.1.below hb5 (Nat.le_refl _)).below HQ.out.2 hz5).wide (Nat.le_refl _) (by omega), hs.wide (by omega) (Nat.le_refl _), H.out.2.2.2.1, hr, hny, by omega, by omega, hP, H.out.2.2.2.2.2.1.trans ((hb5.trans (HQ.out.2.mono hz5)).mono hzr)⟩
        case measure => simpa using hT2
  · obtain ⟨x, hx⟩ : ∃ x, chk2 m n a nb b = x := ⟨_, rfl⟩
    have HE := Lib.hid (hE0.trans hx)
    rw [hx] at hc
    have HX := Lib.hid hx
    have hxz : ((x : Int) != 0) = true := by simp; omega
    clear hx ha hb hE0 hprime
    go_enter Try.func41, Try.ntmps41
    go_wp2_with fail
    refine HP.out.mono ?_
    rintro e w1 ⟨rfl, hb1⟩
    have hz1 := hb1.size
    have HV := Lib.hid (valid2_call m n nb ca cb A B a b w1 0 w.heap.size (HA.out.1.below hb1 (Nat.le_refl _)) (HA.out.2.below hb1 (Nat.le_refl _)) hn hnb hz1)
    rw [HX.out] at HV
    go_wp2_with fail
    refine (HV.out _ rfl).mono ?_
    rintro e w2 ⟨rfl, hb2⟩
    go_wp2
    go_ret2
    exact retGc_err HE.out hc (hb1.trans (hb2.mono hz1))
end Go.Proofs.Ytoifjkandmnakaa
