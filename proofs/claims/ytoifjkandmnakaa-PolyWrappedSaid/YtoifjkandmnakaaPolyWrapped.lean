/- The walk of the law PolyWrapped: it returns true. -/
import Derived.Test.YtoifjkandmnakaaPolyRing
import Derived.Test.YtoifjkandmnakaaAlgWrap
namespace Go.Proofs.Ytoifjkandmnakaa
open Go.RowKit

theorem wrapO {m n ca N : Nat} {A : Option Addr} {a : Nat → Nat} {w : World} (ha : PolO m w A n a) (hN : 1 ≤ N) (hN2 : N ≤ 256) :
    Calls Try.prog 25 #[.int .u32 m, .slice A n ca, .int .i64 (N : Int)] w (fun e w' => ∃ A' c', e = .returned (.tuple #[.slice A' N c', .int .i64 0]) ∧ N ≤ c' ∧ SqO w' A' N (wrapF m n a N) ∧ Bl w w') := by
  obtain ⟨_, _, l1⟩ := ha.len
  have hE : wrE m n a (N : Int) = 0 := by unfold wrE; rw [if_pos ha.ck, if_neg (by omega)]
  have hV : wrN m n a (N : Int) = N := by unfold wrN; rw [if_pos hE]; rfl
  have hF : wrF m n a (N : Int) = wrapF m n a N := by unfold wrF; rw [if_pos hE]; rfl
  refine (wrap_any m n ca N A a w 0 w.heap.size ha.sq (by omega) (Nat.le_refl _)).mono fun e w' h => ?_
  obtain ⟨A', c', rfl, h1, h2, h3⟩ := h
  rw [hV] at h1
  rw [hV, hF] at h2
  rw [hE, hV]
  exact ⟨A', c', rfl, h1, h2.o, h3⟩

theorem rtrimO {n c : Nat} {A : Option Addr} {f : Nat → Nat} {w : World} (h : SqO w A n f) (hc : n ≤ c) (hn : n ≤ 1000000) :
    Calls Try.prog 26 #[.slice A n c] w (fun e w' => ∃ A' c', e = .returned (.slice A' (tl f n) c') ∧ SqO w' A' (tl f n) f ∧ Bl w w') := by
  refine (rtrim_any A n c f w _ _ h hc hn).mono fun e w' h => ?_
  obtain ⟨A', c', rfl, _, h2, h3⟩ := h
  exact ⟨A', c', rfl, h2.o, h3⟩

set_option maxRecDepth 100000 in
set_option maxHeartbeats 4000000 in
theorem polyWrapped_any (m n nb nc ca cb cc x : Nat) (N K : Int) (A B C : Option Addr) (a b : Nat → Nat) (w : World) (ha : SqO w A n a) (hb : SqO w B nb b) (hn : n ≤ 9223372036854775807) (hnb : nb ≤ 9223372036854775807) :
    Calls Try.prog 4 #[.agg #[.int .u32 (m : Int), .slice A n ca, .slice B nb cb, .slice C nc cc, .int .u64 N, .int .i64 K, .int .u32 (x : Int)]] w (RetV w (.bool true)) := by
  have HA := Lib.hid ha
  have HB := Lib.hid hb
  have hbx := boxed w (.cells #[.int .u32 (m : Int), .slice A n ca, .slice B nb cb, .slice C nc cc, .int .u64 N, .int .i64 K, .int .u32 (x : Int)] 35)
  clear ha hb
  go_enter Try.func4, Try.ntmps4
  go_wp2_with fail
  go_quiet (fail)
  have hb0 := hbx nq
  generalize World.drewN (w.alloc _) nq = w0 at hb0 ⊢
  clear hbx
  by_cases h1 : 100 < n
  · have d1 : decide ((n : Int) > 100) = true := decide_eq_true (by omega)
    go_wp2_with fail
    refine (awakeO w0).mono ?_
    rintro e w1 ⟨rfl, hb1⟩
    go_wp2
    go_ret
    exact ⟨rfl, hb0.then hb1⟩
  have d1 : decide ((n : Int) > 100) = false := decide_eq_false (by omega)
  by_cases h2 : 100 < nb
  · have d2 : decide ((nb : Int) > 100) = true := decide_eq_true (by omega)
    go_wp2_with fail
    refine (awakeO w0).mono ?_
    rintro e w1 ⟨rfl, hb1⟩
    go_wp2
    go_ret
    exact ⟨rfl, hb0.then hb1⟩
  have d2 : decide ((nb : Int) > 100) = false := decide_eq_false (by omega)
  by_cases h3 : K < 1
  · have d3 : decide (K < 1) = true := decide_eq_true (by omega)
    go_wp2_with fail
    refine (awakeO w0).mono ?_
    rintro e w1 ⟨rfl, hb1⟩
    go_wp2
    go_ret
    exact ⟨rfl, hb0.then hb1⟩
  have d3 : decide (K < 1) = false := decide_eq_false (by omega)
  by_cases h4 : 100 < K
  · have d4 : decide (K > 100) = true := decide_eq_true (by omega)
    go_wp2_with fail
    refine (awakeO w0).mono ?_
    rintro e w1 ⟨rfl, hb1⟩
    go_wp2
    go_ret
    exact ⟨rfl, hb0.then hb1⟩
  have d4 : decide (K > 100) = false := decide_eq_false (by omega)
  go_wp2_with fail
  refine (checkO (HA.out.step hb0) hn).mono ?_
  rintro e w1 ⟨rfl, hb1⟩
  have hb1 := hb0.then hb1
  clear hb0
  by_cases c1 : chk m n a = 0
  rotate_left
  · have q1 : ((chk m n a : Int) != 0) = true := by rw [chk_bool, decide_eq_false c1]; rfl
    go_wp2_with fail
    refine (awakeO w1).mono ?_
    rintro e w2 ⟨rfl, hb2⟩
    go_wp2
    go_ret
    exact ⟨rfl, hb1.then hb2⟩
  have q1 : ((chk m n a : Int) != 0) = false := by rw [chk_bool, decide_eq_true c1]; rfl
  have C1 := Lib.hid c1
  clear c1
  go_wp2_with fail
  refine (checkO (HB.out.step hb1) hnb).mono ?_
  rintro e w2 ⟨rfl, hb2⟩
  have hb2 := hb1.then hb2
  clear hb1
  by_cases c2 : chk m nb b = 0
  rotate_left
  · have q2 : ((chk m nb b : Int) != 0) = true := by rw [chk_bool, decide_eq_false c2]; rfl
    go_wp2_with fail
    refine (awakeO w2).mono ?_
    rintro e w3 ⟨rfl, hb3⟩
    go_wp2
    go_ret
    exact ⟨rfl, hb2.then hb3⟩
  have q2 : ((chk m nb b : Int) != 0) = false := by rw [chk_bool, decide_eq_true c2]; rfl
  have C2 := Lib.hid c2
  clear c2
  have PA := Lib.hid (PolO.mk (m := m) (HA.out.step hb2) C1.out)
  have PB := Lib.hid (PolO.mk (m := m) (HB.out.step hb2) C2.out)
  obtain ⟨m1, m2, _⟩ := PA.out.len
  clear HA HB C1 C2
  go_wp2_with fail
  clear d1 d2 d3 d4 q1 q2
  obtain ⟨k, rfl⟩ := Int.eq_ofNat_of_zero_le (show 0 ≤ K by omega)
  have hk1 : 1 ≤ k := by omega
  have hk2 : k ≤ 100 := by omega
  have hkk : (((k : Int)) != (k : Int)) = false := by simp
  refine (mulO PA.out PB.out (by omega)).mono ?_
  rintro e w3 ⟨Ap, cp, np, rfl, hp, lp, hb3⟩
  have PP := Lib.hid hp
  clear hp
  go_wp2_with fail
  refine (wrapO PP.out hk1 (by omega)).mono ?_
  rintro e w4 ⟨Aw, cw, rfl, _, hw, hb4⟩
  have PW := Lib.hid hw
  have hb24 := hb3.then hb4
  clear hw
  go_wp2_with fail
  refine (wrapO (PA.out.step hb24) hk1 (by omega)).mono ?_
  rintro e w5 ⟨Ax, cx, rfl, lx, hx, hb5⟩
  have PX := Lib.hid hx
  have hb25 := hb24.then hb5
  clear hx
  go_wp2_with fail
  refine (wrapO (PB.out.step hb25) hk1 (by omega)).mono ?_
  rintro e w6 ⟨Ay, cy, rfl, ly, hy, hb6⟩
  have PY := Lib.hid hy
  have hb26 := hb25.then hb6
  clear hy
  go_wp2_with fail
  refine (rtrimO (PX.out.step hb6) lx (by omega)).mono ?_
  rintro e w7 ⟨Axt, cxt, rfl, hxt, hb7⟩
  go_wp2_with fail
  refine (rtrimO (PY.out.step hb7) ly (by omega)).mono ?_
  rintro e w8 ⟨Ayt, cyt, rfl, hyt, hb8⟩
  have tx := tl_le (wrapF m n a k) k
  have ty := tl_le (wrapF m nb b k) k
  have PXT := Lib.hid (PolO.mk (m := m) (hxt.step hb8) (chk_tl m1 m2 (by omega) (wrapF_lt (by omega))))
  have PYT := Lib.hid (PolO.mk (m := m) hyt (chk_tl m1 m2 (by omega) (wrapF_lt (by omega))))
  have hb28 := (hb26.then hb7).then hb8
  clear hxt hyt
  go_wp2_with fail
  refine (mulO PXT.out PYT.out (by omega)).mono ?_
  rintro e w9 ⟨As, cs, ns, rfl, hs, ls, hb9⟩
  have PS := Lib.hid hs
  clear hs
  go_wp2_with fail
  refine (wrapO PS.out hk1 (by omega)).mono ?_
  rintro e w10 ⟨Ag, cg, rfl, _, hg, hb10⟩
  have PG := Lib.hid hg
  have hb29 := hb28.then hb9
  have hb410 := ((((hb5.then hb6).then hb7).then hb8).then hb9).then hb10
  have hfin := wrap_mul (N := k) (by omega) (by omega) PA.out.lt PB.out.lt PA.out.sq.zero PB.out.sq.zero PP.out.sq.zero PS.out.sq.zero
  have HF := Lib.hid hfin
  clear hg hfin
  go_wp2_with fail
  refine (sameO PG.out (PW.out.step hb410) (by omega) rfl HF.out).mono ?_
  rintro e w11 ⟨rfl, hb11⟩
  go_wp2_with fail
  refine (awakeO w11).mono ?_
  rintro e w12 ⟨rfl, hb12⟩
  go_wp2
  go_ret
  exact ⟨rfl, hb2.then (((hb29.then hb10).then hb11).then hb12)⟩
end Go.Proofs.Ytoifjkandmnakaa
