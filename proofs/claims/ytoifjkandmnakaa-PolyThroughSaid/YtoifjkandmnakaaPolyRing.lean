/- The walk of the law PolyRing: it returns true. -/
import Derived.Test.YtoifjkandmnakaaOld
namespace Go.Proofs.Ytoifjkandmnakaa
open Go.RowKit

theorem boxed (w : World) (o : Obj) (q : Nat) : Bl w ((w.alloc o).drewN q) := below_drewN ((Below.refl w.heap.size w).alloc (Nat.le_refl _) o) q

set_option maxRecDepth 100000 in
set_option maxHeartbeats 4000000 in
theorem polyRing_any (m n nb nc ca cb cc x : Nat) (N K : Int) (A B C : Option Addr) (a b c : Nat → Nat) (w : World) (ha : SqO w A n a) (hb : SqO w B nb b) (hc : SqO w C nc c) (hn : n ≤ 9223372036854775807) (hnb : nb ≤ 9223372036854775807) (hnc : nc ≤ 9223372036854775807) :
    Calls Try.prog 7 #[.agg #[.int .u32 (m : Int), .slice A n ca, .slice B nb cb, .slice C nc cc, .int .u64 N, .int .i64 K, .int .u32 (x : Int)]] w (RetV w (.bool true)) := by
  have HA := Lib.hid ha
  have HB := Lib.hid hb
  have HC := Lib.hid hc
  have hbx := boxed w (.cells #[.int .u32 (m : Int), .slice A n ca, .slice B nb cb, .slice C nc cc, .int .u64 N, .int .i64 K, .int .u32 (x : Int)] 35)
  clear ha hb hc
  go_enter Try.func7, Try.ntmps7
  go_wp2_with fail
  go_quiet (fail)
  have hb0 := hbx nq
  generalize World.drewN (w.alloc _) nq = w0 at hb0 ⊢
  clear hbx
  by_cases h1 : 60 < n
  · have d1 : decide ((n : Int) > 60) = true := decide_eq_true (by omega)
    go_wp2_with fail
    refine (awakeO w0).mono ?_
    rintro e w1 ⟨rfl, hb1⟩
    go_wp2
    go_ret
    exact ⟨rfl, hb0.then hb1⟩
  have d1 : decide ((n : Int) > 60) = false := decide_eq_false (by omega)
  by_cases h2 : 60 < nb
  · have d2 : decide ((nb : Int) > 60) = true := decide_eq_true (by omega)
    go_wp2_with fail
    refine (awakeO w0).mono ?_
    rintro e w1 ⟨rfl, hb1⟩
    go_wp2
    go_ret
    exact ⟨rfl, hb0.then hb1⟩
  have d2 : decide ((nb : Int) > 60) = false := decide_eq_false (by omega)
  by_cases h3 : 60 < nc
  · have d3 : decide ((nc : Int) > 60) = true := decide_eq_true (by omega)
    go_wp2_with fail
    refine (awakeO w0).mono ?_
    rintro e w1 ⟨rfl, hb1⟩
    go_wp2
    go_ret
    exact ⟨rfl, hb0.then hb1⟩
  have d3 : decide ((nc : Int) > 60) = false := decide_eq_false (by omega)
  go_wp2_with fail
  refine (checkO (HA.out.step hb0) hn).mono ?_
  rintro e w1 ⟨rfl, hb1⟩
  have hb1 := hb0.then hb1
  clear hb0
  by_cases c1 : chk m n a = 0
  rotate_left
  · have q1 : ((chk m n a : Int) != 0) = true := by rw [chk_bool, decide_eq_false c1]; rfl
    go_wp2_with fail
    refine (awakeO w1).mono ?_
    rintro e w2 ⟨rfl, hb2⟩
    go_wp2
    go_ret
    exact ⟨rfl, hb1.then hb2⟩
  have q1 : ((chk m n a : Int) != 0) = false := by rw [chk_bool, decide_eq_true c1]; rfl
  have C1 := Lib.hid c1
  clear c1
  go_wp2_with fail
  refine (checkO (HB.out.step hb1) hnb).mono ?_
  rintro e w2 ⟨rfl, hb2⟩
  have hb2 := hb1.then hb2
  clear hb1
  by_cases c2 : chk m nb b = 0
  rotate_left
  · have q2 : ((chk m nb b : Int) != 0) = true := by rw [chk_bool, decide_eq_false c2]; rfl
    go_wp2_with fail
    refine (awakeO w2).mono ?_
    rintro e w3 ⟨rfl, hb3⟩
    go_wp2
    go_ret
    exact ⟨rfl, hb2.then hb3⟩
  have q2 : ((chk m nb b : Int) != 0) = false := by rw [chk_bool, decide_eq_true c2]; rfl
  have C2 := Lib.hid c2
  clear c2
  go_wp2_with fail
  refine (checkO (HC.out.step hb2) hnc).mono ?_
  rintro e w3 ⟨rfl, hb3⟩
  have hb3 := hb2.then hb3
  clear hb2
  by_cases c3 : chk m nc c = 0
  rotate_left
  · have q3 : ((chk m nc c : Int) != 0) = true := by rw [chk_bool, decide_eq_false c3]; rfl
    go_wp2_with fail
    refine (awakeO w3).mono ?_
    rintro e w4 ⟨rfl, hb4⟩
    go_wp2
    go_ret
    exact ⟨rfl, hb3.then hb4⟩
  have q3 : ((chk m nc c : Int) != 0) = false := by rw [chk_bool, decide_eq_true c3]; rfl
  have C3 := Lib.hid c3
  clear c3
  have PA := Lib.hid (PolO.mk (m := m) (HA.out.step hb3) C1.out)
  have PB := Lib.hid (PolO.mk (m := m) (HB.out.step hb3) C2.out)
  have PC := Lib.hid (PolO.mk (m := m) (HC.out.step hb3) C3.out)
  clear HA HB HC C1 C2 C3
  go_wp2_with fail
  clear d1 d2 d3 q1 q2 q3
  refine (mulO PA.out PB.out (by omega)).mono ?_
  rintro e w4 ⟨Aab, cab, nab, rfl, hab, lab, hb4⟩
  have PAB := Lib.hid hab
  clear hab
  go_wp2_with fail
  refine (mulO (PB.out.step hb4) (PA.out.step hb4) (by omega)).mono ?_
  rintro e w5 ⟨Aba, cba, nba, rfl, hba, lba, hb5⟩
  have PBA := Lib.hid hba
  have hb35 := hb4.then hb5
  clear hba
  go_wp2_with fail
  refine (mulO (PAB.out.step hb5) (PC.out.step hb35) (by omega)).mono ?_
  rintro e w6 ⟨Al, cl, nl, rfl, hl, ll, hb6⟩
  have PL := Lib.hid hl
  have hb36 := hb35.then hb6
  have hb46 := hb5.then hb6
  clear hl
  go_wp2_with fail
  refine (mulO (PB.out.step hb36) (PC.out.step hb36) (by omega)).mono ?_
  rintro e w7 ⟨Abc, cbc, nbc, rfl, hbc, lbc, hb7⟩
  have PBC := Lib.hid hbc
  have hb37 := hb36.then hb7
  clear hbc
  go_wp2_with fail
  refine (mulO (PA.out.step hb37) PBC.out (by omega)).mono ?_
  rintro e w8 ⟨Ar, cr, nr, rfl, hr, lr, hb8⟩
  have PR := Lib.hid hr
  have hb38 := hb37.then hb8
  have hb48 := hb46.then (hb7.then hb8)
  clear hr
  go_wp2_with fail
  refine (samePO (PAB.out.step hb48) (PBA.out.step (hb6.then (hb7.then hb8))) (mulF_comm m a b)).mono ?_
  rintro e w9 ⟨rfl, hb9⟩
  go_wp2_with fail
  refine (samePO (PL.out.step ((hb7.then hb8).then hb9)) (PR.out.step hb9) (mulF_assoc m a b c)).mono ?_
  rintro e w10 ⟨rfl, hb10⟩
  have hb310 := (hb38.then hb9).then hb10
  have PBC10 := Lib.hid (PBC.out.step ((hb8.then hb9).then hb10))
  clear PAB PBA PL PR PBC hb35 hb36 hb46 hb37 hb38 hb48 hb4 hb5 hb6 hb7 hb8 hb9 hb10
  go_wp2_with fail
  refine (addO (PA.out.step hb310) (PB.out.step hb310)).mono ?_
  rintro e w11 ⟨As, cs, ns, rfl, hs, ls, hb11⟩
  have PS := Lib.hid hs
  have hb311 := hb310.then hb11
  clear hs
  go_wp2_with fail
  refine (mulO PS.out (PC.out.step hb311) (by omega)).mono ?_
  rintro e w12 ⟨Af, cf, nf, rfl, hf, lf, hb12⟩
  have PF := Lib.hid hf
  have hb312 := hb311.then hb12
  clear hf
  go_wp2_with fail
  refine (mulO (PA.out.step hb312) (PC.out.step hb312) (by omega)).mono ?_
  rintro e w13 ⟨Aac, cac, nac, rfl, hac, lac, hb13⟩
  have PAC := Lib.hid hac
  have hb313 := hb312.then hb13
  have hb1013 := (hb11.then hb12).then hb13
  clear hac
  go_wp2_with fail
  refine (addO PAC.out (PBC10.out.step hb1013)).mono ?_
  rintro e w14 ⟨A2, c2, n2, rfl, h2, l2, hb14⟩
  have P2 := Lib.hid h2
  have hb314 := hb313.then hb14
  clear h2
  go_wp2_with fail
  refine (subO (PS.out.step ((hb12.then hb13).then hb14)) (PB.out.step hb314)).mono ?_
  rintro e w15 ⟨Ak, ck, nk, rfl, hk, lk, hb15⟩
  have PK := Lib.hid hk
  have hb315 := hb314.then hb15
  clear hk
  go_wp2_with fail
  refine (samePO (PF.out.step ((hb13.then hb14).then hb15)) (P2.out.step hb15) (mulF_add m a b c)).mono ?_
  rintro e w16 ⟨rfl, hb16⟩
  go_wp2_with fail
  refine (samePO (PK.out.step hb16) (PA.out.step (hb315.then hb16)) (subF_addF PA.out.lt PB.out.lt)).mono ?_
  rintro e w17 ⟨rfl, hb17⟩
  go_wp2_with fail
  refine (awakeO w17).mono ?_
  rintro e w18 ⟨rfl, hb18⟩
  go_wp2
  go_ret
  exact ⟨rfl, hb3.then (((hb315.then hb16).then hb17).then hb18)⟩
end Go.Proofs.Ytoifjkandmnakaa
