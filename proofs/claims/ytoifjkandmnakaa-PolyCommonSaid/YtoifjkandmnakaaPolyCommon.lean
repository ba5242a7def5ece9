/- The walk of the law PolyCommon: it returns true. -/
import Derived.Test.YtoifjkandmnakaaPolyRing
import Derived.Test.YtoifjkandmnakaaRGcd
import Derived.Test.YtoifjkandmnakaaDvd
namespace Go.Proofs.Ytoifjkandmnakaa
open Go.RowKit

theorem PolO.res {m n : Nat} {w : World} {A : Option Addr} {f : Nat → Nat} (h : PolO m w A n f) : Res m (n, f) := by
  obtain ⟨_, _, _, _, l5⟩ := chk_zero h.ck
  exact ⟨h.lt, h.sq.zero, tl_of_last l5⟩
theorem PolO.lead {m n : Nat} {w : World} {A : Option Addr} {f : Nat → Nat} (h : PolO m w A n f) (hn : 0 < n) : f (n - 1) ≠ 0 := by
  obtain ⟨_, _, _, _, l5⟩ := chk_zero h.ck
  exact l5 hn

/-- the greatest common divisor of valid polynomials modulo a prime -/
theorem gcdO {m n nb ca cb : Nat} {A B : Option Addr} {a b : Nat → Nat} {w : World} (ha : PolO m w A n a) (hb : PolO m w B nb b) (hp : prB m = true) :
    Calls Try.prog 41 #[.int .u32 m, .slice A n ca, .slice B nb cb] w (fun e w' => ∃ A' c' k d, e = .returned (.tuple #[.slice A' k c', .int .i64 0]) ∧ PolO m w' A' k d ∧ (0 < k → d (k - 1) = 1) ∧ Dv m d a ∧ Dv m d b ∧ (∀ c, Dv m c a → Dv m c b → Dv m c d) ∧ Bl w w') := by
  obtain ⟨m1, m2, l1⟩ := ha.len
  obtain ⟨_, _, l2⟩ := hb.len
  have hE : gcE m n a nb b = 0 := by unfold gcE; rw [if_pos hp]; exact chk2_ok ha.ck hb.ck
  obtain ⟨k, d, hd, g1, g2, g3, g4, g5, g6, g7⟩ := gcdF_spec (prB_true.1 hp) ha.res hb.res l1 l2
  have hV : gcV m n a nb b = (k, d) := by unfold gcV; rw [if_pos hE, hd]
  refine (gcd_any m n nb ca cb A B a b w ha.sq hb.sq (by omega) (by omega) (by omega)).mono fun e w' h => ?_
  unfold RetGc at h
  rw [hV, hE] at h
  obtain ⟨A', c', rfl, _, h2, h3⟩ := h
  exact ⟨A', c', k, d, rfl, ⟨h2.o, chk_ok m1 m2 g1 (fun j _ => g2 j) fun h => by rw [g4 h]; exact Nat.one_ne_zero⟩, g4, g5, g6, g7, h3⟩

/-- a division that leaves no rest -/
theorem divO {m n nb ca cb : Nat} {A B : Option Addr} {a b : Nat → Nat} {w : World} (ha : PolO m w A n a) (hb : PolO m w B nb b) (hnb : 0 < nb) (hp : prB m = true) (hd : Dv m b a) :
    Calls Try.prog 18 #[.int .u32 m, .slice A n ca, .slice B nb cb] w (fun e w' => ∃ Aq nq cq Ar cr, e = .returned (.tuple #[.slice Aq nq cq, .slice Ar 0 cr, .int .i64 0]) ∧ Bl w w') := by
  obtain ⟨m1, m2, l1⟩ := ha.len
  obtain ⟨_, _, l2⟩ := hb.len
  obtain ⟨iv, hu, hiv, hinv⟩ := unit_prime (prB_true.1 hp) hb.res hnb
  have hE : dvE m n a nb b = 0 := by unfold dvE; rw [if_pos (chk2_ok ha.ck hb.ck), hu]; rfl
  have hR : dvR m n a nb b = dR m nb b iv (dL n nb) a := by unfold dvR; rw [if_pos hE, hu]
  have hRlt : ∀ j, dR m nb b iv (dL n nb) a j < m := dR_lt (by omega) _ _ ha.lt
  have hRz : ∀ j, nb - 1 ≤ j → dR m nb b iv (dL n nb) a j = 0 := dR_high (by omega) hnb hinv hb.sq.zero (dL n nb) a ha.lt (fun j hj => ha.sq.zero j (by unfold dL at hj; omega))
  have hR0 : ∀ j, dR m nb b iv (dL n nb) a j = 0 := fun j => by
    have h := dv_small hb.sq.zero hnb hinv (Dv.rest (nb := nb) (iv := iv) (i := dL n nb) hd (Dv.refl m b)) (fun j hj => by rw [hRz j hj, Nat.zero_mod]) j
    rwa [Nat.mod_eq_of_lt (hRlt j)] at h
  refine (divmod_any m n nb ca cb A B a b w 0 w.heap.size ha.sq hb.sq (by omega) (by omega) (Nat.le_refl _)).mono fun e w' h => ?_
  obtain ⟨Aq, cq, Ar, cr, rfl, _, _, _, hr, hbl⟩ := h
  rw [hE, hR, tl_zeros hR0]
  exact ⟨Aq, _, cq, Ar, cr, rfl, hbl⟩

/-- a valid polynomial that is 0 is empty -/
theorem PolO.empty {m n : Nat} {w : World} {A : Option Addr} {f : Nat → Nat} (h : PolO m w A n f) (h0 : ∀ j, f j = 0) : n = 0 := by
  rcases Nat.eq_zero_or_pos n with h1 | h1
  · exact h1
  · exact absurd (h0 _) (h.lead h1)
theorem PolO.null {m : Nat} {w : World} {A : Option Addr} {f : Nat → Nat} (h : PolO m w A 0 f) : ∀ j, f j = 0 := fun j => h.sq.zero j (Nat.zero_le j)

theorem prodO_pos {m n nc : Nat} {w w1 : World} {A C : Option Addr} {a c : Nat → Nat} (hp : prB m = true) (ha : PolO m w A n a) (hc : PolO m w1 C nc c) (hn : 0 < n) (hnc : 0 < nc) : mulF m a c (n + nc - 2) ≠ 0 :=
  mulF_ne (prB_true.1 hp) ha.sq.zero hc.sq.zero hn hnc (ha.lead hn) (hc.lead hnc) (ha.lt _) (hc.lt _)

set_option maxRecDepth 100000 in
set_option maxHeartbeats 4000000 in
theorem polyCommon_any (m n nb nc ca cb cc x : Nat) (N K : Int) (A B C : Option Addr) (a b c : Nat → Nat) (w : World) (hm : m ≤ 4294967295) (ha : SqO w A n a) (hb : SqO w B nb b) (hc : SqO w C nc c) (hn : n ≤ 9223372036854775807) (hnb : nb ≤ 9223372036854775807) (hnc : nc ≤ 9223372036854775807) :
    Calls Try.prog 13 #[.agg #[.int .u32 (m : Int), .slice A n ca, .slice B nb cb, .slice C nc cc, .int .u64 N, .int .i64 K, .int .u32 (x : Int)]] w (RetV w (.bool true)) := by
  have HA := Lib.hid ha
  have HB := Lib.hid hb
  have HC := Lib.hid hc
  have hbx := boxed w (.cells #[.int .u32 (m : Int), .slice A n ca, .slice B nb cb, .slice C nc cc, .int .u64 N, .int .i64 K, .int .u32 (x : Int)] 35)
  clear ha hb hc
  go_enter Try.func13, Try.ntmps13
  go_wp2_with fail
  go_quiet (fail)
  have hb0 := hbx nq
  generalize World.drewN (w.alloc _) nq = w0 at hb0 ⊢
  clear hbx
  by_cases h1 : 40 < n
  · have d1 : decide ((n : Int) > 40) = true := decide_eq_true (by omega)
    go_wp2_with fail
    refine (awakeO w0).mono ?_
    rintro e w1 ⟨rfl, hb1⟩
    go_wp2
    go_ret
    exact ⟨rfl, hb0.then hb1⟩
  have d1 : decide ((n : Int) > 40) = false := decide_eq_false (by omega)
  by_cases h2 : 40 < nb
  · have d2 : decide ((nb : Int) > 40) = true := decide_eq_true (by omega)
    go_wp2_with fail
    refine (awakeO w0).mono ?_
    rintro e w1 ⟨rfl, hb1⟩
    go_wp2
    go_ret
    exact ⟨rfl, hb0.then hb1⟩
  have d2 : decide ((nb : Int) > 40) = false := decide_eq_false (by omega)
  by_cases h3 : 40 < nc
  · have d3 : decide ((nc : Int) > 40) = true := decide_eq_true (by omega)
    go_wp2_with fail
    refine (awakeO w0).mono ?_
    rintro e w1 ⟨rfl, hb1⟩
    go_wp2
    go_ret
    exact ⟨rfl, hb0.then hb1⟩
  have d3 : decide ((nc : Int) > 40) = false := decide_eq_false (by omega)
  by_cases h4 : nc = 0
  · have d4 : ((nc : Int) == 0) = true := by subst h4; rfl
    go_wp2_with fail
    refine (awakeO w0).mono ?_
    rintro e w1 ⟨rfl, hb1⟩
    go_wp2
    go_ret
    exact ⟨rfl, hb0.then hb1⟩
  have d4 : ((nc : Int) == 0) = false := by simp; omega
  have HP := Lib.hid (rprime05_any m w0 hm)
  cases hpr : prB m
  · rw [hpr] at HP
    go_wp2_with fail
    refine HP.out.mono ?_
    rintro e w1 ⟨rfl, hw1⟩
    subst hw1
    go_wp2_with fail
    refine (awakeO _).mono ?_
    rintro e w1 ⟨rfl, hb1⟩
    go_wp2
    go_ret
    exact ⟨rfl, hb0.then hb1⟩
  rw [hpr] at HP
  have HPR := Lib.hid hpr
  clear hpr
  go_wp2_with fail
  refine HP.out.mono ?_
  rintro e w1 ⟨rfl, hw1⟩
  subst hw1
  go_wp2_with fail
  refine (checkO (HA.out.step hb0) hn).mono ?_
  rintro e w1 ⟨rfl, hb1⟩
  have hb1 := hb0.then hb1
  clear hb0
  by_cases c1 : chk m n a = 0
  rotate_left
  · have q1 : ((chk m n a : Int) != 0) = true := by rw [chk_bool, decide_eq_false c1]; rfl
    go_wp2_with fail
    refine (awakeO w1).mono ?_
    rintro e w2 ⟨rfl, hb2⟩
    go_wp2
    go_ret
    exact ⟨rfl, hb1.then hb2⟩
  have q1 : ((chk m n a : Int) != 0) = false := by rw [chk_bool, decide_eq_true c1]; rfl
  have C1 := Lib.hid c1
  clear c1
  go_wp2_with fail
  refine (checkO (HB.out.step hb1) hnb).mono ?_
  rintro e w2 ⟨rfl, hb2⟩
  have hb2 := hb1.then hb2
  clear hb1
  by_cases c2 : chk m nb b = 0
  rotate_left
  · have q2 : ((chk m nb b : Int) != 0) = true := by rw [chk_bool, decide_eq_false c2]; rfl
    go_wp2_with fail
    refine (awakeO w2).mono ?_
    rintro e w3 ⟨rfl, hb3⟩
    go_wp2
    go_ret
    exact ⟨rfl, hb2.then hb3⟩
  have q2 : ((chk m nb b : Int) != 0) = false := by rw [chk_bool, decide_eq_true c2]; rfl
  have C2 := Lib.hid c2
  clear c2
  go_wp2_with fail
  refine (checkO (HC.out.step hb2) hnc).mono ?_
  rintro e w3 ⟨rfl, hb3⟩
  have hb3 := hb2.then hb3
  clear hb2
  by_cases c3 : chk m nc c = 0
  rotate_left
  · have q3 : ((chk m nc c : Int) != 0) = true := by rw [chk_bool, decide_eq_false c3]; rfl
    go_wp2_with fail
    refine (awakeO w3).mono ?_
    rintro e w4 ⟨rfl, hb4⟩
    go_wp2
    go_ret
    exact ⟨rfl, hb3.then hb4⟩
  have q3 : ((chk m nc c : Int) != 0) = false := by rw [chk_bool, decide_eq_true c3]; rfl
  have C3 := Lib.hid c3
  clear c3
  have PA := Lib.hid (PolO.mk (m := m) (HA.out.step hb3) C1.out)
  have PB := Lib.hid (PolO.mk (m := m) (HB.out.step hb3) C2.out)
  have PC := Lib.hid (PolO.mk (m := m) (HC.out.step hb3) C3.out)
  clear HA HB HC C1 C2 C3
  go_wp2_with fail
  clear d1 d2 d3 d4 q1 q2 q3
  refine (mulO PA.out PC.out (by omega)).mono ?_
  rintro e w4 ⟨Ax, cx, nx, rfl, hx, lx, hb4⟩
  have PX := Lib.hid hx
  clear hx
  go_wp2_with fail
  refine (mulO (PB.out.step hb4) (PC.out.step hb4) (by omega)).mono ?_
  rintro e w5 ⟨Ay, cy, ny, rfl, hy, ly, hb5⟩
  have PY := Lib.hid hy
  have hb35 := hb4.then hb5
  clear hy
  go_wp2_with fail
  refine (gcdO (PX.out.step hb5) PY.out HPR.out).mono ?_
  rintro e w6 ⟨Ad, cd, nd, d, rfl, hd, hlead, g1, g2, g3, hb6⟩
  have PD := Lib.hid hd
  have hb36 := hb35.then hb6
  have G := Lib.hid (And.intro g1 (And.intro g2 (g3 c (Dv.prod PA.out.sq.zero) (Dv.prod PB.out.sq.zero))))
  have G0 := Lib.hid (g3 fun _ => 0)
  clear hd g1 g2 g3
  by_cases hz : n = 0 ∧ nb = 0
  · obtain ⟨rfl, rfl⟩ := hz
    have hnd : nd = 0 := by
      have e1 : mulF m a c = fun _ => 0 := funext (mulF_zero (.inl PA.out.null))
      have e2 : mulF m b c = fun _ => 0 := funext (mulF_zero (.inl PB.out.null))
      have h0 := G0.out
      rw [e1, e2] at h0
      exact PD.out.empty ((h0 (Dv.zero _ _) (Dv.zero _ _)).of_zero PD.out.lt)
    subst hnd
    go_wp2_with fail
    refine (awakeO w6).mono ?_
    rintro e w7 ⟨rfl, hb7⟩
    go_wp2
    go_ret
    exact ⟨rfl, hb3.then (hb36.then hb7)⟩
  have hnd : 0 < nd := by
    rcases Nat.eq_zero_or_pos nd with h0 | h0
    · subst h0
      have e0 : d = fun _ => 0 := funext PD.out.null
      have G' := G.out
      rw [e0] at G'
      rcases Nat.eq_zero_or_pos n with h | h
      · exact absurd (G'.2.1.of_zero PY.out.lt _) (prodO_pos HPR.out PB.out PC.out (by omega) (by omega))
      · exact absurd (G'.1.of_zero PX.out.lt _) (prodO_pos HPR.out PA.out PC.out h (by omega))
    · exact h0
  have hz' : (((n : Int) == 0) = false) ∨ (((n : Int) == 0) = true ∧ ((nb : Int) == 0) = false) := by
    by_cases h : n = 0
    · exact .inr ⟨by subst h; rfl, by simp; omega⟩
    · exact .inl (by simp; omega)
  have hl1 := hlead hnd
  obtain ⟨g, off, hAd, _, _, hcell⟩ := PD.out.sq.2 hnd
  have hc1 := hcell (nd - 1) (by omega)
  rw [hl1] at hc1
  have hnz : ((nd : Int) == 0) = false := by simp; omega
  have hkz : ((nd : Int) - 1).toNat = nd - 1 := by omega
  clear hcell hlead hz
  subst hAd
  obtain ⟨_, _, lnd⟩ := PD.out.len
  rcases hz' with d1 | ⟨d1, d2⟩
  all_goals
    go_wp2_with fail
    refine (divO (PX.out.step (hb5.then hb6)) PD.out hnd HPR.out G.out.1).mono ?_
    rintro e w7 ⟨Aq, nq, cq, Ar, cr, rfl, hb7⟩
    go_wp2_with fail
    refine (divO (PY.out.step (hb6.then hb7)) (PD.out.step hb7) hnd HPR.out G.out.2.1).mono ?_
    rintro e w8 ⟨Aq2, nq2, cq2, Ar2, cr2, rfl, hb8⟩
    have hb38 := hb36.then (hb7.then hb8)
    go_wp2_with fail
    refine (divO (PD.out.step (hb7.then hb8)) (PC.out.step hb38) (by omega) HPR.out G.out.2.2).mono ?_
    rintro e w9 ⟨Aq3, nq3, cq3, Ar3, cr3, rfl, hb9⟩
    go_wp2_with fail
    refine (awakeO w9).mono ?_
    rintro e w10 ⟨rfl, hb10⟩
    go_wp2
    go_ret
    exact ⟨rfl, hb3.then ((hb38.then hb9).then hb10)⟩
end Go.Proofs.Ytoifjkandmnakaa
