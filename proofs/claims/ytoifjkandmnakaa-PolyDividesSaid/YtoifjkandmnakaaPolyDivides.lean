/- The walk of the law PolyDivides: it returns true. -/
import Derived.Test.YtoifjkandmnakaaLawKit
namespace Go.Proofs.Ytoifjkandmnakaa
open Go.RowKit

set_option maxHeartbeats 1000000 in
theorem polyDivides_any (m n nb ca cb : Nat) (A B : Option Addr) (a b : Nat → Nat) (w : World) (ha : Sq .u32 w 0 w.heap.size A n a) (hb : Sq .u32 w 0 w.heap.size B nb b) (hn : n ≤ 9223372036854775807) (hnb : nb ≤ 9223372036854775807) :
    Calls Try.prog 3 #[.int .u32 m, .slice A n ca, .slice B nb cb] w (RetV w (.bool true)) := by
  have HL := Lib.hid (large2_call n nb ca cb A B w hn hnb)
  by_cases hlong : 300 < n ∨ 300 < nb
  · rw [anyLong2_true hlong] at HL
    clear hlong ha hb
    go_enter Try.func3, Try.ntmps3
    go_wp2_with fail
    refine (HL.out _ rfl).mono ?_
    rintro e w1 ⟨rfl, hb1⟩
    go_wp2_with fail
    refine (awake_any w1).mono ?_
    rintro e w2 ⟨rfl, hb2⟩
    go_wp2
    go_ret
    exact ⟨rfl, hb1.trans (hb2.mono hb1.size)⟩
  · rw [anyLong2_false hlong] at HL
    have hn3 : n ≤ 300 := by omega
    have hnb3 : nb ≤ 300 := by omega
    have HA := Lib.hid ha
    have HB := Lib.hid hb
    clear hlong ha hb
    go_enter Try.func3, Try.ntmps3
    go_wp2_with fail
    refine (HL.out _ rfl).mono ?_
    rintro e w0 ⟨rfl, hb0⟩
    go_wp2_with fail
    refine (lent_any A n ca a w0 _ _ (HA.out.below hb0 (Nat.le_refl _)) (by omega) hb0.size).mono ?_
    rintro e w1 ⟨rfl, hr1, hb1, hs1⟩
    have hb01 := hb0.trans (hb1.mono hb0.size)
    go_wp2_with fail
    refine (lent_any B nb cb b w1 _ _ (HB.out.below hb01 (Nat.le_refl _)) (by omega) hb01.size).mono ?_
    rintro e w2 ⟨rfl, hr2, hb2, hs2⟩
    have hz0 := hb0.size
    have hb02 := hb01.trans (hb2.mono hb01.size)
    have hr1' := rowIs_below hr1 hb2 hs1
    have R1 := Lib.hid hr1'
    have R2 := Lib.hid hr2
    clear hr1 hr2 hr1'
    go_wp2_with fail
    refine (divmod_any m n nb _ _ _ _ a b w2 0 w2.heap.size ((sq_lent R1.out HA.out.1).wide (Nat.zero_le _) (by omega)) ((sq_lent R2.out HB.out.1).wide (Nat.zero_le _) (by omega)) hn hnb (Nat.le_refl _)).mono ?_
    rintro e w3 ⟨Aq, cq, Ar, cr, rfl, hcq, hcr, hq, hr, hb3⟩
    have hz3 := hb3.size
    have R1' := Lib.hid (rowIs_below R1.out hb3 (by omega))
    have R2' := Lib.hid (rowIs_below R2.out hb3 (by omega))
    have hb03 := hb02.trans (hb3.mono hb02.size)
    have Q := Lib.hid (And.intro hq hr)
    clear hq hr
    go_wp2_with fail
    refine (kept_any _ n ca A a w3 0 _ R1'.out (HA.out.below hb03 (Nat.le_refl _)) (by omega) hb03.size).mono ?_
    rintro e w4 ⟨rfl, hb4⟩
    have hz4 := hb4.size
    have hb04 := hb03.trans (hb4.mono hb03.size)
    have R1'' := Lib.hid (rowIs_below R1'.out hb4 R1'.out.lt)
    have R2'' := Lib.hid (rowIs_below R2'.out hb4 R2'.out.lt)
    go_wp2_with fail
    refine (kept_any _ nb cb B b w4 0 _ R2''.out (HB.out.below hb04 (Nat.le_refl _)) (by omega) hb04.size).mono ?_
    rintro e w5 ⟨rfl, hb5⟩
    have hz5 := hb5.size
    have hb05 := hb04.trans (hb5.mono hb04.size)
    have S1 := Lib.hid (rowIs_below R1''.out hb5 R1''.out.lt)
    have S2 := Lib.hid (rowIs_below R2''.out hb5 R2''.out.lt)
    have Q5 := Lib.hid (And.intro ((Q.out.1.below hb4 (Nat.le_refl _)).below hb5 hz4) ((Q.out.2.below hb4 (Nat.le_refl _)).below hb5 hz4))
    clear R1 R2 R1' R2' R1'' R2'' Q
    go_wp2_with fail
    refine (spoil_any w0.heap.size 22 n (n + 1) (n + 1) _ w5 S1.out (by omega) (by omega)).mono ?_
    rintro e w6 ⟨rfl, _, hg6, hz6⟩
    have S2' := Lib.hid (rowIs_grown S2.out hg6 (by omega))
    have hb06 := hb05.grown hg6 (by omega) (fun g hg => by injection hg with hg; omega)
    have Q6 := Lib.hid (And.intro (Q5.out.1.grown hg6 (.inl (by omega)) (by omega)) (Q5.out.2.grown hg6 (.inl (by omega)) (by omega)))
    clear Q5 S1 S2
    go_wp2_with fail
    refine (spoil_any w1.heap.size 22 nb (nb + 1) (nb + 1) _ w6 S2'.out (by omega) (by omega)).mono ?_
    rintro e w7 ⟨rfl, _, hg7, hz7⟩
    have hb07 := hb06.grown hg7 (by omega) (fun g hg => by injection hg with hg; omega)
    have Q7 := Lib.hid (And.intro (Q6.out.1.grown hg7 (.inl (by omega)) (by omega)) (Q6.out.2.grown hg7 (.inl (by omega)) (by omega)))
    clear Q6 S2'
    go_wp2_with fail
    have hz7' := hb07.size
    refine (rdivmod_any m n nb ca cb A B a b w7 0 w.heap.size (HA.out.below hb07 (Nat.le_refl _)) (HB.out.below hb07 (Nat.le_refl _)) hn hnb hz7').mono ?_
    rintro e w8 ⟨Ac, cc, Ad, cd, rfl, hcc, hcd, hc, hd, hb8⟩
    have hz8 := hb8.size
    have hb08 := hb07.trans (hb8.mono hz7')
    have Q8 := Lib.hid (And.intro (Q7.out.1.below hb8 (by omega)) (Q7.out.2.below hb8 (by omega)))
    have C8 := Lib.hid (And.intro hc hd)
    have t1 := tl_le (dvQ m n a nb b) (dL n nb)
    have t2 := tl_le (dvR m n a nb b) n
    have t3 : dL n nb ≤ 301 := by unfold dL; omega
    have hee : ((dvE m n a nb b : Int) == (dvE m n a nb b : Int)) = true := beq_self_eq_true _
    clear hc hd Q7
    have HS1 := Lib.hid (same_any _ _ cq cc Aq Ac _ _ w8 _ _ _ _ Q8.out.1 C8.out.1 (by omega) (by omega) (by omega) (Nat.le_refl _))
    rw [sameB_refl] at HS1
    go_wp2_with fail
    refine HS1.out.mono ?_
    rintro e w9 ⟨rfl, hb9⟩
    have hz9 := hb9.size
    have HS2 := Lib.hid (same_any _ _ cr cd Ar Ad _ _ w9 _ _ _ _ (Q8.out.2.below hb9 (by omega)) (C8.out.2.below hb9 (Nat.le_refl _)) (by omega) (by omega) (by omega) hz9)
    rw [sameB_refl] at HS2
    go_wp2_with fail
    refine HS2.out.mono ?_
    rintro e w10 ⟨rfl, hb10⟩
    have hz10 := hb10.size
    go_wp2_with fail
    refine (awake_any w10).mono ?_
    rintro e w11 ⟨rfl, hb11⟩
    go_wp2
    go_ret
    exact ⟨rfl, hb08.trans ((hb9.trans ((hb10.trans (hb11.mono hz10)).mono hz9)).mono (by omega))⟩
end Go.Proofs.Ytoifjkandmnakaa
