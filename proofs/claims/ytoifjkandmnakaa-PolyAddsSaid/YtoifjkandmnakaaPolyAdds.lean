/- The walk of the law PolyAdds: it returns true. -/
import Derived.Test.YtoifjkandmnakaaAddSub
namespace Go.Proofs.Ytoifjkandmnakaa
open Go.RowKit

theorem okF_out {er : Nat} {F : Nat → Nat} (x : Nat) (h : tl F x ≤ 2000) : tl (okF er F) x ≤ 2000 := by
  unfold okF
  split
  · exact h
  · rw [tl_zeros (fun _ => rfl)]; exact Nat.zero_le _

set_option maxHeartbeats 1000000 in
theorem polyAdds_any (m n nb ca cb : Nat) (A B : Option Addr) (a b : Nat → Nat) (w : World) (ha : Sq .u32 w 0 w.heap.size A n a) (hb : Sq .u32 w 0 w.heap.size B nb b) (hn : n ≤ 9223372036854775807) (hnb : nb ≤ 9223372036854775807) :
    Calls Try.prog 5 #[.int .u32 m, .slice A n ca, .slice B nb cb] w (RetV w (.bool true)) := by
  have HL := Lib.hid (large2_call n nb ca cb A B w hn hnb)
  by_cases hlong : 300 < n ∨ 300 < nb
  · rw [anyLong2_true hlong] at HL
    clear hlong ha hb
    go_enter Try.func5, Try.ntmps5
    go_wp2_with fail
    refine (HL.out _ rfl).mono ?_
    rintro e w1 ⟨rfl, hb1⟩
    go_wp2_with fail
    refine (awake_any w1).mono ?_
    rintro e w2 ⟨rfl, hb2⟩
    go_wp2
    go_ret
    exact ⟨rfl, hb1.trans (hb2.mono hb1.size)⟩
  · rw [anyLong2_false hlong] at HL
    have hn3 : n ≤ 300 := by omega
    have hnb3 : nb ≤ 300 := by omega
    have HA := Lib.hid ha
    have HB := Lib.hid hb
    clear hlong ha hb
    go_enter Try.func5, Try.ntmps5
    go_wp2_with fail
    refine (HL.out _ rfl).mono ?_
    rintro e w0 ⟨rfl, hb0⟩
    go_wp2_with fail
    refine (lent_any A n ca a w0 _ _ (HA.out.below hb0 (Nat.le_refl _)) (by omega) hb0.size).mono ?_
    rintro e w1 ⟨rfl, hr1, hb1, hs1⟩
    have hb01 := hb0.trans (hb1.mono hb0.size)
    go_wp2_with fail
    refine (lent_any B nb cb b w1 _ _ (HB.out.below hb01 (Nat.le_refl _)) (by omega) hb01.size).mono ?_
    rintro e w2 ⟨rfl, hr2, hb2, hs2⟩
    have hz0 := hb0.size
    have hb02 := hb01.trans (hb2.mono hb01.size)
    have R1 := Lib.hid (rowIs_below hr1 hb2 hs1)
    have R2 := Lib.hid hr2
    clear hr1 hr2
    go_wp2_with fail
    -- Check, twice
    refine (pcheck_any m n _ _ a w2 0 w2.heap.size ((sq_lent R1.out HA.out.1).wide (Nat.zero_le _) (by omega)) hn (Nat.le_refl _)).mono ?_
    rintro e w3 ⟨rfl, hb3⟩
    have hz3 := hb3.size
    have hb03 := hb02.trans (hb3.mono hb02.size)
    go_wp2_with fail
    refine (check_any m n ca A a w3 0 _ (HA.out.below hb03 (Nat.le_refl _)) hn).mono ?_
    rintro e w4 ⟨rfl, hb4⟩
    have hz4 := hb4.size
    have hb24 := hb3.trans (hb4.mono hz3)
    have hb04 := hb02.trans (hb24.mono hb02.size)
    have S1 := Lib.hid ((sq_lent (rowIs_below R1.out hb24 (by omega)) HA.out.1).wide (lo' := 0) (Nat.zero_le _) (show w0.heap.size + 1 ≤ w4.heap.size by omega))
    have S2 := Lib.hid ((sq_lent (rowIs_below R2.out hb24 (by omega)) HB.out.1).wide (lo' := 0) (Nat.zero_le _) (show w1.heap.size + 1 ≤ w4.heap.size by omega))
    go_wp2_with fail
    -- Add, Sub, Mul
    refine (add_any m n nb _ _ _ _ a b w4 0 _ S1.out S2.out hn hnb (Nat.le_refl _)).mono ?_
    rintro e w5 ⟨As, cs, rfl, _, hsum, hb5⟩
    have hz5 := hb5.size
    have Q5 := Lib.hid hsum
    clear hsum
    go_wp2_with fail
    refine (psub_any m n nb _ _ _ _ a b w5 0 _ (S1.out.below hb5 (Nat.le_refl _)) (S2.out.below hb5 (Nat.le_refl _)) hn hnb hz5).mono ?_
    rintro e w6 ⟨Al, cl, rfl, _, hless, hb6⟩
    have hz6 := hb6.size
    have Q6 := Lib.hid (And.intro (Q5.out.below hb6 (Nat.le_refl _)) hless)
    clear hless Q5
    go_wp2_with fail
    refine (mul_any m n nb _ _ _ _ a b w6 0 _ ((S1.out.below hb5 (Nat.le_refl _)).below hb6 hz5) ((S2.out.below hb5 (Nat.le_refl _)).below hb6 hz5) hn hnb (by omega)).mono ?_
    rintro e w7 ⟨Ap, cp, rfl, _, hprod, hb7⟩
    have hz7 := hb7.size
    have Q7 := Lib.hid (And.intro (Q6.out.1.below hb7 (by omega)) (And.intro (Q6.out.2.below hb7 (Nat.le_refl _)) hprod))
    have hb27 := hb24.trans ((hb5.trans ((hb6.trans (hb7.mono hz6)).mono hz5)).mono (by omega))
    have hb07 := hb02.trans (hb27.mono hb02.size)
    have R1' := Lib.hid (rowIs_below R1.out hb27 (by omega))
    have R2' := Lib.hid (rowIs_below R2.out hb27 (by omega))
    clear hprod Q6 S1 S2 R1 R2
    go_wp2_with fail
    refine (kept_any _ n ca A a w7 0 _ R1'.out (HA.out.below hb07 (Nat.le_refl _)) (by omega) hb07.size).mono ?_
    rintro e w8 ⟨rfl, hb8⟩
    have hz8 := hb8.size
    have hb08 := hb07.trans (hb8.mono hb07.size)
    have R2'' := Lib.hid (rowIs_below R2'.out hb8 R2'.out.lt)
    have R1'' := Lib.hid (rowIs_below R1'.out hb8 R1'.out.lt)
    go_wp2_with fail
    refine (kept_any _ nb cb B b w8 0 _ R2''.out (HB.out.below hb08 (Nat.le_refl _)) (by omega) hb08.size).mono ?_
    rintro e w9 ⟨rfl, hb9⟩
    have hz9 := hb9.size
    have hb09 := hb08.trans (hb9.mono hb08.size)
    have hb79 := hb8.trans (hb9.mono hz8)
    have S1 := Lib.hid (rowIs_below R1''.out hb9 R1''.out.lt)
    have S2 := Lib.hid (rowIs_below R2''.out hb9 R2''.out.lt)
    have Q9 := Lib.hid (And.intro (Q7.out.1.below hb79 (by omega)) (And.intro (Q7.out.2.1.below hb79 (by omega)) (Q7.out.2.2.below hb79 (Nat.le_refl _))))
    clear R1' R2' R1'' R2'' Q7
    go_wp2_with fail
    refine (spoil_any w0.heap.size 22 n (n + 1) (n + 1) _ w9 S1.out (by omega) (by omega)).mono ?_
    rintro e w10 ⟨rfl, _, hg10, hz10⟩
    have S2' := Lib.hid (rowIs_grown S2.out hg10 (by omega))
    have hb10 := hb09.grown hg10 (by omega) (fun g hg => by injection hg with hg; omega)
    have Q10 := Lib.hid (And.intro (Q9.out.1.grown hg10 (.inl (by omega)) (by omega)) (And.intro (Q9.out.2.1.grown hg10 (.inl (by omega)) (by omega)) (Q9.out.2.2.grown hg10 (.inl (by omega)) (by omega))))
    clear Q9 S1 S2
    go_wp2_with fail
    refine (spoil_any w1.heap.size 22 nb (nb + 1) (nb + 1) _ w10 S2'.out (by omega) (by omega)).mono ?_
    rintro e w11 ⟨rfl, _, hg11, hz11⟩
    have hb11 := hb10.grown hg11 (by omega) (fun g hg => by injection hg with hg; omega)
    have Q11 := Lib.hid (And.intro (Q10.out.1.grown hg11 (.inl (by omega)) (by omega)) (And.intro (Q10.out.2.1.grown hg11 (.inl (by omega)) (by omega)) (Q10.out.2.2.grown hg11 (.inl (by omega)) (by omega))))
    have hz11' := hb11.size
    clear Q10 S2'
    go_wp2_with fail
    refine (radd_any m n nb ca cb A B a b w11 0 w.heap.size (HA.out.below hb11 (Nat.le_refl _)) (HB.out.below hb11 (Nat.le_refl _)) hn hnb hz11').mono ?_
    rintro e w12 ⟨Ac, cc, rfl, _, hc, hb12⟩
    have hz12 := hb12.size
    have hb012 := hb11.trans (hb12.mono hz11')
    have C12 := Lib.hid hc
    clear hc
    go_wp2_with fail
    refine (rsub_any m n nb ca cb A B a b w12 0 w.heap.size (HA.out.below hb012 (Nat.le_refl _)) (HB.out.below hb012 (Nat.le_refl _)) hn hnb hb012.size).mono ?_
    rintro e w13 ⟨Ad, cd, rfl, _, hd, hb13⟩
    have hz13 := hb13.size
    have hb013 := hb012.trans (hb13.mono hb012.size)
    have C13 := Lib.hid (And.intro (C12.out.below hb13 (Nat.le_refl _)) hd)
    clear hd C12
    go_wp2_with fail
    refine (rmul_any m n nb ca cb A B a b w13 0 w.heap.size (HA.out.below hb013 (Nat.le_refl _)) (HB.out.below hb013 (Nat.le_refl _)) hn hnb hb013.size).mono ?_
    rintro e w14 ⟨Aq, cq, rfl, _, hq, hb14⟩
    have hz14 := hb14.size
    have hb014 := hb013.trans (hb14.mono hb013.size)
    have hb1114 := hb12.trans ((hb13.trans (hb14.mono hz13)).mono hz12)
    have C14 := Lib.hid (And.intro (C13.out.1.below hb14 hz13) (And.intro (C13.out.2.below hb14 (Nat.le_refl _)) hq))
    have Q14 := Lib.hid (And.intro (Q11.out.1.below hb1114 (by omega)) (And.intro (Q11.out.2.1.below hb1114 (by omega)) (Q11.out.2.2.below hb1114 (by omega))))
    have t1 := okF_out (er := chk2 m n a nb b) (F := addF m a b) (max n nb) (by have := tl_le (addF m a b) (max n nb); omega)
    have t2 := okF_out (er := chk2 m n a nb b) (F := subF m a b) (max n nb) (by have := tl_le (subF m a b) (max n nb); omega)
    have t3 := tl_le (mlF m n a nb b) (n + nb)
    have e1 : ((chk m n a : Int) == (chk m n a : Int)) = true := beq_self_eq_true _
    have e2 : ((chk2 m n a nb b : Int) == (chk2 m n a nb b : Int)) = true := beq_self_eq_true _
    have e3 : ((mlE m n a nb b : Int) == (mlE m n a nb b : Int)) = true := beq_self_eq_true _
    clear hq C13 Q11
    have HS1 := Lib.hid (same_any _ _ cs cc As Ac _ _ w14 _ _ _ _ Q14.out.1 C14.out.1 (by omega) (by omega) (by omega) (by omega))
    rw [sameB_refl] at HS1
    go_wp2_with fail
    refine HS1.out.mono ?_
    rintro e w15 ⟨rfl, hb15⟩
    have hz15 := hb15.size
    have HS2 := Lib.hid (same_any _ _ cl cd Al Ad _ _ w15 _ _ _ _ (Q14.out.2.1.below hb15 (by omega)) (C14.out.2.1.below hb15 (by omega)) (by omega) (by omega) (by omega) (by omega))
    rw [sameB_refl] at HS2
    go_wp2_with fail
    refine HS2.out.mono ?_
    rintro e w16 ⟨rfl, hb16⟩
    have hz16 := hb16.size
    have hb1416 := hb15.trans (hb16.mono hz15)
    have HS3 := Lib.hid (same_any _ _ cp cq Ap Aq _ _ w16 _ _ _ _ (Q14.out.2.2.below hb1416 (by omega)) (C14.out.2.2.below hb1416 (Nat.le_refl _)) (by omega) (by omega) (by omega) (by omega))
    rw [sameB_refl] at HS3
    go_wp2_with fail
    refine HS3.out.mono ?_
    rintro e w17 ⟨rfl, hb17⟩
    have hz17 := hb17.size
    go_wp2_with fail
    refine (awake_any w17).mono ?_
    rintro e w18 ⟨rfl, hb18⟩
    go_wp2
    go_ret
    exact ⟨rfl, hb014.trans ((hb1416.trans ((hb17.trans (hb18.mono hz17)).mono (by omega))).mono (by omega))⟩
end Go.Proofs.Ytoifjkandmnakaa
