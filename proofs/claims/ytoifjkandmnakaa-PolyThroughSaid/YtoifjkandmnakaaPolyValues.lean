/- The walk of the law PolyValues: it returns true. -/
import Derived.Test.YtoifjkandmnakaaPolyRing
import Derived.Test.YtoifjkandmnakaaAlgVal
namespace Go.Proofs.Ytoifjkandmnakaa
open Go.RowKit

theorem evalO {m n ca x : Nat} {A : Option Addr} {a : Nat → Nat} {w : World} (ha : PolO m w A n a) (hx : x < m) :
    Calls Try.prog 35 #[.int .u32 m, .slice A n ca, .int .u32 x] w (fun e w' => e = .returned (.tuple #[.int .u32 (valF m n a x : Nat), .int .i64 0]) ∧ Bl w w') := by
  obtain ⟨_, _, l1⟩ := ha.len
  have hE : evE m n a x = 0 := by unfold evE; rw [if_pos ha.ck, if_neg (by omega)]
  have hV : evV m n a x = valF m n a x := by unfold evV; rw [if_pos hE]
  have h := eval_any m n ca x A a w 0 w.heap.size ha.sq (by omega) (Nat.le_refl _)
  rw [hE, hV] at h
  exact h

/-- dividing by the linear polynomial with a root -/
theorem divLin {m n ca x y : Nat} {A : Option Addr} {a : Nat → Nat} {w : World} (ha : PolO m w A n a) (hx : x < m) (hy : y = (m - x) % m) (W : World) (hW : W = w.alloc (.cells #[.int .u32 (y : Int), .int .u32 1] 22)) :
    Calls Try.prog 18 #[.int .u32 m, .slice A n ca, .slice (some ⟨w.heap.size, 0, none⟩) 2 2] W (fun e w' => ∃ Aq nq cq Ar cr nr r, e = .returned (.tuple #[.slice Aq nq cq, .slice Ar nr cr, .int .i64 0]) ∧ SqO w' Ar nr r ∧ nr ≤ 1 ∧ r 0 = valF m n a x ∧ (nr = 0 ↔ valF m n a x = 0) ∧ Bl w w') := by
  subst hW
  obtain ⟨m1, m2, l1⟩ := ha.len
  have hb0 : Bl w (w.alloc (.cells #[.int .u32 (y : Int), .int .u32 1] 22)) := (Below.refl w.heap.size w).alloc (Nat.le_refl _) _
  have s2 : Sq .u32 (w.alloc (.cells #[.int .u32 (y : Int), .int .u32 1] 22)) 0 (w.heap.size + 1) (some ⟨w.heap.size, 0, none⟩) 2 (litF [y, 1]) := sq_list .u32 w 22 0 _ [y, 1] (Nat.zero_le _) (Nat.lt_succ_self _)
  have hsz : (w.alloc (.cells #[.int .u32 (y : Int), .int .u32 1] 22)).heap.size = w.heap.size + 1 := by simp
  have hym : y < m := by rw [hy]; exact Nat.mod_lt _ (by omega)
  have hck : chk m 2 (litF [y, 1]) = 0 := chk_ok m1 m2 (by omega) (fun j hj => by
    match j, hj with
    | 0, _ => exact hym
    | 1, _ => show 1 < m; omega) (fun _ => by show (1 : Nat) ≠ 0; omega)
  have hu : unitF m 2 (litF [y, 1]) = (invN 1 m, true) := unitF_yes (by omega) (by show Nat.gcd m 1 = 1; exact Nat.gcd_one_right m)
  have hE : dvE m n a 2 (litF [y, 1]) = 0 := by unfold dvE; rw [if_pos (chk2_ok ha.ck hck), hu]; rfl
  have hR : dvR m n a 2 (litF [y, 1]) = dR m 2 (litF [y, 1]) (invN 1 m) (dL n 2) a := by unfold dvR; rw [if_pos hE, hu]
  have hlit : ∀ j, 2 ≤ j → litF [y, 1] j = 0 := fun j hj => litF_out hj
  have hinv := invN_spec (a := 1) (m := m) (by omega) m1 (Nat.gcd_one_right m)
  have hroot : valF m 2 (litF [y, 1]) x = 0 := by
    unfold valF
    show (0 + y * x ^ 0 + 1 * x ^ 1) % m = 0
    rw [Nat.pow_zero, Nat.pow_one, Nat.mul_one, Nat.one_mul, Nat.zero_add, hy, Nat.mod_add_mod, Nat.sub_add_cancel (Nat.le_of_lt hx), Nat.mod_self]
  have hRlt : ∀ j, dR m 2 (litF [y, 1]) (invN 1 m) (dL n 2) a j < m := dR_lt (by omega) _ _ ha.lt
  have hRz : ∀ j, 1 ≤ j → dR m 2 (litF [y, 1]) (invN 1 m) (dL n 2) a j = 0 := dR_high (by omega) (by omega) hinv.2 hlit (dL n 2) a ha.lt (fun j hj => ha.sq.zero j (by unfold dL at hj; omega))
  have hval : dR m 2 (litF [y, 1]) (invN 1 m) (dL n 2) a 0 = valF m n a x := by
    rw [← val_low (N := n + 2) (x := x) hRlt hRz (by omega), val_dR hlit hroot (dL n 2) a (by unfold dL; omega), val_more (n := n) ha.sq.zero (by omega)]
  refine (divmod_any m n 2 ca 2 A _ a (litF [y, 1]) _ 0 (w.heap.size + 1) ((ha.sq.step hb0).wide (Nat.le_refl _) (by omega)) s2 (by omega) (by omega) (by omega)).mono fun e w' h => ?_
  obtain ⟨Aq, cq, Ar, cr, rfl, _, _, _, hr, hb⟩ := h
  rw [hR] at hr
  rw [hE, hR]
  have hz0 : (∀ j, n ≤ j → dR m 2 (litF [y, 1]) (invN 1 m) (dL n 2) a j = 0) ∨ n = 0 := by
    rcases Nat.eq_zero_or_pos n with h | h
    · exact .inr h
    · exact .inl fun j hj => hRz j (by omega)
  have hn1 : tl (dR m 2 (litF [y, 1]) (invN 1 m) (dL n 2) a) n ≤ 1 := by
    rcases Nat.lt_or_ge 1 (tl (dR m 2 (litF [y, 1]) (invN 1 m) (dL n 2) a) n) with h | h
    · exact absurd (hRz _ (by omega)) (tl_last (dR m 2 (litF [y, 1]) (invN 1 m) (dL n 2) a) n (by omega))
    · exact h
  refine ⟨Aq, _, cq, Ar, cr, _, _, rfl, hr.o, hn1, hval, ?_, Bl.then hb0 hb⟩
  rw [← hval]
  constructor
  · intro h0
    exact hr.1 0 (by omega)
  · intro h0
    rcases Nat.eq_zero_or_pos (tl (dR m 2 (litF [y, 1]) (invN 1 m) (dL n 2) a) n) with h | h
    · exact h
    · have h2 : tl (dR m 2 (litF [y, 1]) (invN 1 m) (dL n 2) a) n = 1 := by omega
      have h3 := tl_last (dR m 2 (litF [y, 1]) (invN 1 m) (dL n 2) a) n h
      rw [h2] at h3
      exact absurd h0 h3

set_option maxRecDepth 100000 in
set_option maxHeartbeats 4000000 in
theorem polyValues_any (m n nb nc ca cb cc x : Nat) (N K : Int) (A B C : Option Addr) (a b : Nat → Nat) (w : World) (ha : SqO w A n a) (hb : SqO w B nb b) (hn : n ≤ 9223372036854775807) (hnb : nb ≤ 9223372036854775807) :
    Calls Try.prog 8 #[.agg #[.int .u32 (m : Int), .slice A n ca, .slice B nb cb, .slice C nc cc, .int .u64 N, .int .i64 K, .int .u32 (x : Int)]] w (RetV w (.bool true)) := by
  have HA := Lib.hid ha
  have HB := Lib.hid hb
  have hbx := boxed w (.cells #[.int .u32 (m : Int), .slice A n ca, .slice B nb cb, .slice C nc cc, .int .u64 N, .int .i64 K, .int .u32 (x : Int)] 35)
  clear ha hb
  go_enter Try.func8, Try.ntmps8
  go_wp2_with fail
  go_quiet (fail)
  have hb0 := hbx nq
  generalize World.drewN (w.alloc _) nq = w0 at hb0 ⊢
  clear hbx
  by_cases h1 : 120 < n
  · have d1 : decide ((n : Int) > 120) = true := decide_eq_true (by omega)
    go_wp2_with fail
    refine (awakeO w0).mono ?_
    rintro e w1 ⟨rfl, hb1⟩
    go_wp2
    go_ret
    exact ⟨rfl, hb0.then hb1⟩
  have d1 : decide ((n : Int) > 120) = false := decide_eq_false (by omega)
  by_cases h2 : 120 < nb
  · have d2 : decide ((nb : Int) > 120) = true := decide_eq_true (by omega)
    go_wp2_with fail
    refine (awakeO w0).mono ?_
    rintro e w1 ⟨rfl, hb1⟩
    go_wp2
    go_ret
    exact ⟨rfl, hb0.then hb1⟩
  have d2 : decide ((nb : Int) > 120) = false := decide_eq_false (by omega)
  go_wp2_with fail
  refine (checkO (HA.out.step hb0) hn).mono ?_
  rintro e w1 ⟨rfl, hb1⟩
  have hb1 := hb0.then hb1
  clear hb0
  by_cases c1 : chk m n a = 0
  rotate_left
  · have q1 : ((chk m n a : Int) != 0) = true := by rw [chk_bool, decide_eq_false c1]; rfl
    go_wp2_with fail
    refine (awakeO w1).mono ?_
    rintro e w2 ⟨rfl, hb2⟩
    go_wp2
    go_ret
    exact ⟨rfl, hb1.then hb2⟩
  have q1 : ((chk m n a : Int) != 0) = false := by rw [chk_bool, decide_eq_true c1]; rfl
  have C1 := Lib.hid c1
  clear c1
  go_wp2_with fail
  refine (checkO (HB.out.step hb1) hnb).mono ?_
  rintro e w2 ⟨rfl, hb2⟩
  have hb2 := hb1.then hb2
  clear hb1
  by_cases c2 : chk m nb b = 0
  rotate_left
  · have q2 : ((chk m nb b : Int) != 0) = true := by rw [chk_bool, decide_eq_false c2]; rfl
    go_wp2_with fail
    refine (awakeO w2).mono ?_
    rintro e w3 ⟨rfl, hb3⟩
    go_wp2
    go_ret
    exact ⟨rfl, hb2.then hb3⟩
  have q2 : ((chk m nb b : Int) != 0) = false := by rw [chk_bool, decide_eq_true c2]; rfl
  have C2 := Lib.hid c2
  clear c2
  by_cases h3 : m ≤ x
  · have d3 : decide ((x : Int) ≥ (m : Int)) = true := decide_eq_true (by omega)
    go_wp2_with fail
    refine (awakeO w2).mono ?_
    rintro e w3 ⟨rfl, hb3⟩
    go_wp2
    go_ret
    exact ⟨rfl, hb2.then hb3⟩
  have hxm : x < m := by omega
  have d3 : decide ((x : Int) ≥ (m : Int)) = false := decide_eq_false (by omega)
  have PA := Lib.hid (PolO.mk (m := m) (HA.out.step hb2) C1.out)
  have PB := Lib.hid (PolO.mk (m := m) (HB.out.step hb2) C2.out)
  obtain ⟨m1, m2, _⟩ := PA.out.len
  have hvm := valF_lt (m := m) (by omega) n a x
  have hwm := valF_lt (m := m) (by omega) nb b x
  have HADD := Lib.hid (val_add (m := m) (N := max n nb) (a := a) (b := b) (x := x))
  have HMORE := Lib.hid (And.intro (val_more (m := m) (N := max n nb) (x := x) HA.out.zero (by omega)) (val_more (m := m) (N := max n nb) (x := x) HB.out.zero (by omega)))
  have HMUL := Lib.hid (val_mul (m := m) (M := n + nb) (x := x) HA.out.zero HB.out.zero (Nat.le_refl _))
  clear HA HB C1 C2
  go_wp2_with fail
  clear d1 d2 d3 q1 q2
  refine (evalO PA.out hxm).mono ?_
  rintro e w3 ⟨rfl, hb3⟩
  go_wp2_with fail
  refine (evalO (PB.out.step hb3) hxm).mono ?_
  rintro e w4 ⟨rfl, hb4⟩
  have hb24 := hb3.then hb4
  go_wp2_with fail
  refine (addO (PA.out.step hb24) (PB.out.step hb24)).mono ?_
  rintro e w5 ⟨As, cs, ns, rfl, hs, ls, hb5⟩
  have PS := Lib.hid hs
  have hb25 := hb24.then hb5
  clear hs
  go_wp2_with fail
  refine (mulO (PA.out.step hb25) (PB.out.step hb25) (by omega)).mono ?_
  rintro e w6 ⟨Ap, cp, np, rfl, hp, lp, hb6⟩
  have PP := Lib.hid hp
  have hb26 := hb25.then hb6
  clear hp
  go_wp2_with fail
  refine (evalO (PS.out.step hb6) hxm).mono ?_
  rintro e w7 ⟨rfl, hb7⟩
  go_wp2_with fail
  refine (evalO (PP.out.step hb7) hxm).mono ?_
  rintro e w8 ⟨rfl, hb8⟩
  have hb28 := (hb26.then hb7).then hb8
  -- the values
  have hsv : valF m ns (addF m a b) x = (valF m n a x + valF m nb b x) % m := by
    rw [← val_more (N := max n nb) PS.out.sq.zero ls, HADD.out, HMORE.out.1, HMORE.out.2]
  have hpv : valF m np (mulF m a b) x = valF m n a x * valF m nb b x % m := by
    rw [← val_more (N := n + nb) PP.out.sq.zero lp, HMUL.out]
  obtain ⟨v, hv⟩ : ∃ v, valF m n a x = v := ⟨_, rfl⟩
  obtain ⟨u, hu⟩ : ∃ u, valF m nb b x = u := ⟨_, rfl⟩
  rw [hv, hu] at hsv hpv
  have q3 : (((valF m ns (addF m a b) x : Nat) : Int) != ((v : Int) + (u : Int)) % (m : Int)) = false := by rw [hsv]; simp
  have q4 : (((valF m np (mulF m a b) x : Nat) : Int) != ((v : Int) * (u : Int)) % (m : Int)) = false := by rw [hpv]; simp
  rw [hv] at hvm
  rw [hu] at hwm
  rw [hv, hu]
  have q5 := mul_lt_int hvm hwm m2
  have q6 : 0 ≤ (v : Int) * (u : Int) := Int.mul_nonneg (Int.natCast_nonneg _) (Int.natCast_nonneg _)
  have HV := Lib.hid hv
  have hsm : valF m ns (addF m a b) x < m := valF_lt (by omega) _ _ _
  have hpm : valF m np (mulF m a b) x < m := valF_lt (by omega) _ _ _
  have hym : (m - x) % m < m := Nat.mod_lt _ (by omega)
  obtain ⟨y, hy⟩ : ∃ y, (m - x) % m = y := ⟨_, rfl⟩
  rw [hy] at hym
  have hyi : (-(x : Int)) % (m : Int) = (y : Int) := by rw [← hy, Int.natCast_emod, Int.ofNat_sub (Nat.le_of_lt hxm)]; simp
  have HY := Lib.hid hy
  have HYI := Lib.hid hyi
  have hy0 : 0 ≤ (-(x : Int)) % (m : Int) := by rw [hyi]; omega
  have hy1 : (-(x : Int)) % (m : Int) < (m : Int) := by rw [hyi]; omega
  clear hsv hpv hv hu hy hyi
  go_wp2_with fail
  rw [HYI.out]
  clear q3 q4 q5 q6
  refine (divLin (PA.out.step hb28) hxm HY.out.symm _ rfl).mono ?_
  rintro e w9 ⟨Aq, nq, cq, Ar, cr, nr, r, rfl, hr, hnr, hr0, hiff, hb9⟩
  rw [HV.out] at hr0 hiff
  have hb29 := hb28.then hb9
  rcases Nat.eq_zero_or_pos nr with h0 | h0
  · subst h0
    obtain rfl : v = 0 := hiff.1 rfl
    clear hr hr0 hiff
    go_wp2_with fail
    refine (awakeO w9).mono ?_
    rintro e w10 ⟨rfl, hb10⟩
    go_wp2
    go_ret
    exact ⟨rfl, (hb2.then hb29).then hb10⟩
  · obtain rfl : nr = 1 := by omega
    obtain ⟨g, off, rfl, _, _, hcell⟩ := hr.2 (by omega)
    have hc0 := hcell 0 (by omega)
    rw [hr0] at hc0
    have hv0 : v ≠ 0 := fun h => by have := hiff.2 h; omega
    have q7 : ((v : Int) == 0) = false := by simp; omega
    have q8 : ((v : Int) == (v : Int)) = true := beq_self_eq_true _
    simp only [Nat.add_zero] at hc0
    clear hr hr0 hiff hcell
    go_wp2_with fail
    refine (awakeO w9).mono ?_
    rintro e w10 ⟨rfl, hb10⟩
    go_wp2
    go_ret
    exact ⟨rfl, (hb2.then hb29).then hb10⟩
end Go.Proofs.Ytoifjkandmnakaa
