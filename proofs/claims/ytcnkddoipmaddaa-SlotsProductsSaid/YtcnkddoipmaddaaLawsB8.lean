/- The walk of the law SlotsCodes: it returns true. -/
import Derived.Test.YtcnkddoipmaddaaAwk8
import Derived.Test.YtcnkddoipmaddaaREnc8
namespace Go.Proofs.Ytcnkddoipmaddaa
open Go.RowKit
set_option linter.unusedVariables false

theorem sq_lentZ {W : World} {b n : Nat} {f : Nat → Int} (hr : W.rowIs b 2 (n + 1) (Z.ku .i64 (lentZ n f))) (hz : ∀ j, n ≤ j → f j = 0) : Z.Sq .i64 W 0 W.heap.size (some ⟨b, 0, none⟩) n f :=
  Z.Sq.of_row hr (by omega) (Nat.zero_le _) hr.lt hz fun j hj => lentZ_lt hj
theorem sq_grownZ {k : IntKind} {w w' : World} {lo hi n g : Nat} {A : Option Addr} {f : Nat → Int} (h : Z.Sq k w lo hi A n f) (hg : w.grownBy w' (some g)) (hne : g < lo ∨ hi ≤ g) (hhi : hi ≤ w.heap.size) : Z.Sq k w' lo hi A n f :=
  ⟨h.1, fun hn => by
    obtain ⟨b, off, e, h1, h2, h3⟩ := h.2 hn
    exact ⟨b, off, e, h1, h2, fun j hj => (World.cell?_of_block (hg.block b (by omega) (by simp; omega))).trans (h3 j hj)⟩⟩
theorem grownBy_setCell8 {w w' : World} {b i : Nat} {v : Value} (h : w.grownBy w' (some b)) : w.grownBy (w'.setCell ⟨b, i, none⟩ v) (some b) :=
  ⟨h.os, h.tape, h.output, by simpa using h.size, fun k hk hne => (Below.heap_setCell w' ⟨b, i, none⟩ v k (fun e => hne (by rw [e]))).trans (h.block k hk hne)⟩
theorem Rz.belowb {W W' : World} {lo b n p R x B : Nat} (h : Rz W lo b n p R x) (hb : Below B W W') (hB : b < B) : Rz W' lo b n p R x :=
  ⟨(below_c hb hB).trans h.cN, (below_c hb hB).trans h.cP, (below_c hb hB).trans h.cR, (below_c hb hB).trans h.cX, h.lob, Nat.lt_of_lt_of_le h.lt hb.size⟩

set_option maxRecDepth 100000 in
set_option maxHeartbeats 2000000 in
theorem slotsCodes_any (n : Int) (p : Nat) (r ee : Int) (m c : Nat) (A : Option Addr) (a : Nat → Int) (v : Value) (w : World) (hp : p ≤ 4294967295) (hr : r ≤ 9223372036854775807) (ha : Z.Sq .i64 w 0 w.heap.size A m a) (hm : m ≤ 9223372036854775807) :
    Calls Try.prog 3 #[.agg #[.int .i64 n, .int .u32 p, .int .i64 r, .int .i64 ee, .slice A m c, v]] w (RetV w (.bool true)) := by
  have hcx := Cx8.new w n p r ee (.slice A m c) v 25
  have hb1 : Below w.heap.size w (w.alloc (.cells #[.int .i64 n, .int .u32 p, .int .i64 r, .int .i64 ee, .slice A m c, v] 25)) := (Below.refl _ w).alloc (Nat.le_refl _) _
  obtain ⟨w1, hw1⟩ : ∃ w1, w1 = w.alloc (.cells #[.int .i64 n, .int .u32 p, .int .i64 r, .int .i64 ee, .slice A m c, v] 25) := ⟨_, rfl⟩
  rw [← hw1] at hcx hb1
  have HW1 := Lib.hid hw1
  have HCX := Lib.hid hcx
  have HA := Lib.hid ha
  have c0 := hcx.c0
  have c1 := hcx.c1
  have c2 := hcx.c2
  have c3 := hcx.c3
  have c4 := hcx.c4
  have c5 := hcx.c5
  have hz1 := hb1.size
  clear hw1 hcx ha
  by_cases hlong : 100 < m
  · have d1 : decide ((m : Int) > 100) = true := decide_eq_true (by omega)
    have d2 : decide (100 < m) = true := decide_eq_true hlong
    go_enter Try.func3, Try.ntmps3
    repeat
      fail_if_success rw [← HW1.out]
      go_step
    rw [← HW1.out]
    go_wp2_with fail
    (with_reducible refine (awake8_any w1).mono ?_)
    rintro e w2 ⟨rfl, hb2⟩
    go_wp2_with fail
    go_ret
    exact ⟨rfl, hb1.trans (hb2.mono hz1)⟩
  have d1 : decide ((m : Int) > 100) = false := decide_eq_false (by omega)
  have d2 : decide (100 < m) = false := decide_eq_false hlong
  have hm100 : m ≤ 100 := by omega
  clear hlong
  go_enter Try.func3, Try.ntmps3
  repeat
    fail_if_success rw [← HW1.out]
    go_step
  rw [← HW1.out]
  go_wp2_with fail
  (with_reducible refine (made8_any n p r _ _ _ w1 hp hr).mono ?_)
  rintro e w2 ⟨hb2, hh⟩
  have hb12 := hb1.trans (hb2.mono hz1)
  have hz2 := hb12.size
  have hz12 := hb2.size
  have HCX2 := Lib.hid (HCX.out.below hb2 HCX.out.lt)
  clear c0 c1 c2 c3 c4 c5
  rcases hh with ⟨hno, rfl⟩ | ⟨k, R, b, x, b2, rfl, rfl, hok, rfl, hg, ht, hrz⟩
  · clear hno
    go_wp2_with fail
    (with_reducible refine (awake8_any w2).mono ?_)
    rintro e w3 ⟨rfl, hb3⟩
    go_wp2_with fail
    go_ret
    exact ⟨rfl, hb12.trans (hb3.mono hz2)⟩
  have hk := hg.nb
  have HG := Lib.hid hg
  have HT := Lib.hid ht
  have HR := Lib.hid hrz
  obtain ⟨L1, E1, G1, l1, _, _, u1⟩ := ret_uni8 (VOk k p R m a ee) k (encF (p ^ ee.toNat) k x (invN k (p ^ ee.toNat)) a)
  obtain ⟨L2, E2, G2, l2, _, _, u2⟩ := ret_uni8 (VOk k p R m a ee) k (decF (p ^ ee.toNat) k x a)
  have c4 := HCX2.out.c4
  have hcl := HCX2.out.lt
  clear hok hg ht hrz
  go_wp2_with fail
  refine (lent8_any A m c a w2 _ _ (HA.out.below hb12 (Nat.le_refl _)) (by omega) hb12.size).mono ?_
  rintro e w3 ⟨rfl, hr3, hb3, hz3⟩
  have hb13 := hb12.trans (hb3.mono hz2)
  have HCX3 := Lib.hid (HCX2.out.below hb3 hcl)
  have HT3 := Lib.hid (HT.out.below hb3 (Nat.le_refl _))
  have HR3 := Lib.hid (HR.out.below hb3 (Nat.le_refl _))
  have HO3 := Lib.hid hr3
  have hbr := HR.out.lt
  clear c4 hr3
  have c3 := HCX3.out.c3
  have HF := Lib.hid (encode_any _ b k p R x m (m + 1) _ _ ee _ a w3 HG.out HT3.out (sq_lentZ HO3.out HA.out.1) hm (Nat.le_refl _))
  go_wp2_with fail
  refine HF.out.mono ?_
  rintro e w4 hh
  obtain ⟨hb4, A1, e1, rfl, hs1⟩ := u1 _ _ _ hh
  have hz4 := hb4.size
  have hb14 := hb13.trans (hb4.mono hb13.size)
  have HCX4 := Lib.hid (HCX3.out.below hb4 (by omega))
  have HT4 := Lib.hid (HT3.out.below hb4 (Nat.le_refl _))
  have HR4 := Lib.hid (HR3.out.below hb4 (Nat.le_refl _))
  have HO4 := Lib.hid (rowIs_below HO3.out hb4 HO3.out.lt)
  have HS4 := Lib.hid hs1
  have HI := Lib.hid (decode_any _ b k p R x m (m + 1) _ _ ee _ a w4 HG.out HT4.out (sq_lentZ HO4.out HA.out.1) hm (Nat.le_refl _))
  clear hh hs1 c3
  have c3 := HCX4.out.c3
  go_wp2_with fail
  refine HI.out.mono ?_
  rintro e w5 hh
  obtain ⟨hb5, A2, e2, rfl, hs2⟩ := u2 _ _ _ hh
  have hz5 := hb5.size
  have hb15 := hb14.trans (hb5.mono hb14.size)
  have HCX5 := Lib.hid (HCX4.out.below hb5 (by omega))
  have HR5 := Lib.hid (HR4.out.below hb5 (Nat.le_refl _))
  have HO5 := Lib.hid (rowIs_below HO4.out hb5 HO4.out.lt)
  have HS5 := Lib.hid (And.intro (HS4.out.below hb5 (Nat.le_refl _)) hs2)
  clear hh hs2 c3
  have c4 := HCX5.out.c4
  have HK := Lib.hid (kept8_any _ m c A a w5 0 _ HO5.out (HA.out.below hb15 (Nat.le_refl _)) (by omega) hb15.size)
  go_wp2_with fail
  refine HK.out.mono ?_
  rintro e w6 ⟨rfl, hb6⟩
  have hz6 := hb6.size
  have hb16 := hb15.trans (hb6.mono hb15.size)
  have HCX6 := Lib.hid (HCX5.out.below hb6 (by omega))
  have HR6 := Lib.hid (HR5.out.below hb6 (Nat.le_refl _))
  have HO6 := Lib.hid (rowIs_below HO5.out hb6 HO5.out.lt)
  have HS6 := Lib.hid (And.intro (HS5.out.1.below hb6 (by omega)) (HS5.out.2.below hb6 (Nat.le_refl _)))
  clear c4 HK HI HF HO3 HO4 HO5 HS4 HS5 HT3 HT4 HR3 HR4 HR5 HCX2 HCX3 HCX4 HCX5
  go_wp2_with fail
  go_loopw [11] (fun i wr => ∃ j : Nat, j ≤ m ∧ i = .int .i64 j ∧ wr.rowIs w2.heap.size 2 (m + 1) (Z.ku .i64 fun t => if t < j then 99 else lentZ m a t) ∧ w6.grownBy wr (some w2.heap.size) ∧ wr.heap.size = w6.heap.size) (fun i _ => m - (intOf i).toNat)
  case atStart =>
    refine ⟨0, Nat.zero_le _, rfl, HO6.out.congr fun j _ => ?_, World.grownBy.refl _ _, rfl⟩
    simp [Z.ku]
  case round =>
    obtain ⟨j, hj, rfl, hrr, hgr, hsz⟩ := hrel
    have HS := Lib.hid hsz
    have HGR := Lib.hid hgr
    have HRR := Lib.hid hrr
    by_cases hjm : j < m
    · have hc2 := hrr.cell (show j < m + 1 by omega)
      simp only [Z.ku, Nat.lt_irrefl, if_false] at hc2
      have hf2 := hrr.frozen j
      clear hrr hgr hsz
      go_wp2
      go_roundw
      case rel =>
        refine ⟨j + 1, hjm, by go_num, ?_, grownBy_setCell8 HGR.out, by simpa using HS.out⟩
        refine (Z.rowIs_set_ku HRR.out j 99).congr fun t _ => ?_
        simp only [Z.ku]
        congr 1
        by_cases h1 : t = j
        · rw [if_pos h1, if_pos (by omega)]
        · rw [if_neg h1]
          by_cases h2 : t < j
          · rw [if_pos h2, if_pos (by omega)]
          · rw [if_neg h2, if_neg (by omega)]
      case measure => simp [intOf]; omega
    · have hbw : Below w.heap.size w wr := hb16.grown hgr hb16.size (fun g hg => by injection hg with hg; omega)
      have hbr6 : Below w2.heap.size w6 wr := (Below.refl w2.heap.size w6).grown hgr (by omega) (fun g hg => by injection hg with hg; omega)
      have HCX7 := Lib.hid (HCX6.out.below hbr6 (by omega))
      have HR7 := Lib.hid (HR6.out.belowb hbr6 (by omega))
      have HS7 := Lib.hid (And.intro (sq_grownZ HS6.out.1 hgr (.inl (by omega)) (by omega)) (sq_grownZ HS6.out.2 hgr (.inl (by omega)) (by omega)))
      have c4 := HCX7.out.c4
      have c3 := HCX7.out.c3
      have hzr := HS.out
      have HRF := Lib.hid (rencode_any _ b2 k p R x m c 0 w.heap.size ee A a wr HG.out HR7.out (HA.out.below hbw (Nat.le_refl _)) hm hbw.size)
      clear hrr hgr hsz
      go_wp2_with fail
      refine HRF.out.mono ?_
      rintro e w8 hh
      obtain ⟨hb8, A3, e3, rfl, hs3⟩ := u1 _ _ _ hh
      have hz8 := hb8.size
      have hbw8 := hbw.trans (hb8.mono hbw.size)
      have HCX8 := Lib.hid (HCX7.out.below hb8 (by omega))
      have HR8 := Lib.hid (HR7.out.below hb8 (Nat.le_refl _))
      have HS8 := Lib.hid (And.intro (HS7.out.1.below hb8 (by omega)) (And.intro (HS7.out.2.below hb8 (by omega)) hs3))
      clear hh hs3 c3 c4
      have c4 := HCX8.out.c4
      have c3 := HCX8.out.c3
      have HRI := Lib.hid (rdecode_any _ b2 k p R x m c 0 w.heap.size ee A a w8 HG.out HR8.out (HA.out.below hbw8 (Nat.le_refl _)) hm hbw8.size)
      go_wp2_with fail
      refine HRI.out.mono ?_
      rintro e w9 hh
      obtain ⟨hb9, A4, e4, rfl, hs4⟩ := u2 _ _ _ hh
      have hz9 := hb9.size
      have hbw9 := hbw8.trans (hb9.mono hbw8.size)
      have HS9 := Lib.hid (And.intro (HS8.out.1.below hb9 (by omega)) (And.intro (HS8.out.2.1.below hb9 (by omega)) (And.intro (HS8.out.2.2.below hb9 (Nat.le_refl _)) hs4)))
      clear hh hs4 c3 c4
      have HQ1 := Lib.hid ((same8_any L1 L1 e1 e3 A1 A3 G1 G1 w9 _ _ _ _ HS9.out.1 HS9.out.2.2.1 (by omega) (by omega) (by omega) (by omega)).mono fun e w' hh => hh.yes ⟨rfl, fun _ _ => rfl⟩)
      have f1 : (E1 == E1) = true := beq_self_eq_true _
      have f2 : (E2 == E2) = true := beq_self_eq_true _
      go_wp2_with fail
      refine HQ1.out.mono ?_
      rintro e w10 ⟨rfl, hb10⟩
      have hz10 := hb10.size
      have HQ2 := Lib.hid ((same8_any L2 L2 e2 e4 A2 A4 G2 G2 w10 _ _ _ _ (HS9.out.2.1.below hb10 (by omega)) (HS9.out.2.2.2.below hb10 (by omega)) (by omega) (by omega) (by omega) (by omega)).mono fun e w' hh => hh.yes ⟨rfl, fun _ _ => rfl⟩)
      go_wp2_with fail
      refine HQ2.out.mono ?_
      rintro e w11 ⟨rfl, hb11⟩
      have hbw11 := hbw9.trans ((hb10.trans (hb11.mono hz10)).mono hbw9.size)
      go_wp2_with fail
      (with_reducible refine (awake8_any w11).mono ?_)
      rintro e w12 ⟨rfl, hb12⟩
      go_wp2_with fail
      go_ret
      exact ⟨rfl, hbw11.trans (hb12.mono hbw11.size)⟩
end Go.Proofs.Ytcnkddoipmaddaa
