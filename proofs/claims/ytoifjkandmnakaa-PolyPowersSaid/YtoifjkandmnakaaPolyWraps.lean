/- The walk of the law PolyWraps: it returns true. -/
import Derived.Test.YtoifjkandmnakaaRWrap
namespace Go.Proofs.Ytoifjkandmnakaa
open Go.RowKit

theorem large1_call (n ca : Nat) (A : Option Addr) (w : World) (hn : n ≤ 9223372036854775807) (W : World) (hW : W = w.alloc (.cells #[.slice A n ca] 23)) :
    Calls Try.prog 15 #[.slice (some ⟨w.heap.size, 0, none⟩) 1 1] W (fun e w' => e = .returned (.bool (decide (300 < n))) ∧ Below w.heap.size w w') := by
  subst hW
  have hbel := (Below.refl w.heap.size w).alloc (Nat.le_refl _) (.cells #[.slice A n ca] 23)
  have h := large_any w.heap.size 1 (fun _ => A) (fun _ => n) (fun _ => ca) (w.alloc (.cells #[.slice A n ca] 23)) (Cs.one_ (by rw [World.cell?_alloc_new]; rfl)) (fun _ _ => hn) (by omega)
  have e : anyLong 1 (fun _ => n) = decide (300 < n) := by
    by_cases h : 300 < n
    · rw [anyLong_true (k := 0) (by omega) h, decide_eq_true h]
    · rw [anyLong_false (fun k _ => by omega), decide_eq_false h]
  rw [e] at h
  exact h.mono fun e w' h => ⟨h.1, hbel.trans (h.2.mono (by simp))⟩

theorem wrN_le (m n : Nat) (a : Nat → Nat) (k : Int) : wrN m n a k ≤ 2000 := by
  unfold wrN
  split
  · rename_i h
    unfold wrE at h
    split at h
    · split at h
      · cases h
      · omega
    · rename_i h2
      exact absurd h h2
  · omega

set_option maxHeartbeats 2000000 in
theorem polyWraps_any (m n nb nc ca cb cc x : Nat) (N K : Int) (A B C : Option Addr) (a : Nat → Nat) (w : World) (ha : Sq .u32 w 0 w.heap.size A n a) (hn : n ≤ 9223372036854775807) :
    Calls Try.prog 9 #[.agg #[.int .u32 (m : Int), .slice A n ca, .slice B nb cb, .slice C nc cc, .int .u64 N, .int .i64 K, .int .u32 (x : Int)]] w (RetV w (.bool true)) := by
  have HA := Lib.hid ha
  have hbx := (Below.refl w.heap.size w).alloc (Nat.le_refl _) (.cells #[.int .u32 (m : Int), .slice A n ca, .slice B nb cb, .slice C nc cc, .int .u64 N, .int .i64 K, .int .u32 (x : Int)] 35)
  clear ha
  go_enter Try.func9, Try.ntmps9
  go_wp2_with fail
  go_quiet (fail)
  have hb0 := below_drewN hbx nq
  generalize World.drewN (w.alloc _) nq = w0 at hb0 ⊢
  clear hbx
  have hz0 := hb0.size
  have HL := Lib.hid (large1_call n ca A w0 hn)
  by_cases hlong : 300 < n
  · rw [decide_eq_true hlong] at HL
    clear hlong HA
    go_wp2_with fail
    refine (HL.out _ rfl).mono ?_
    rintro e w1 ⟨rfl, hb1⟩
    go_wp2_with fail
    refine (awake_any w1).mono ?_
    rintro e w2 ⟨rfl, hb2⟩
    go_wp2
    go_ret
    exact ⟨rfl, hb0.trans ((hb1.trans (hb2.mono hb1.size)).mono hz0)⟩
  · rw [decide_eq_false hlong] at HL
    have hn3 : n ≤ 300 := by omega
    clear hlong
    go_wp2_with fail
    refine (HL.out _ rfl).mono ?_
    rintro e w1 ⟨rfl, hb1⟩
    have hb01 := hb0.trans (hb1.mono hz0)
    have hz1 := hb01.size
    go_wp2_with fail
    refine (lent_any A n ca a w1 _ _ (HA.out.below hb01 (Nat.le_refl _)) (by omega) hz1).mono ?_
    rintro e w2 ⟨rfl, hr2, hb2, hs2⟩
    have hb02 := hb01.trans (hb2.mono hz1)
    have R2 := Lib.hid hr2
    clear hr2
    go_wp2_with fail
    refine (wrap_any m n (n + 1) K _ a w2 0 w2.heap.size ((sq_lent R2.out HA.out.1).wide (Nat.zero_le _) (by omega)) hn (Nat.le_refl _)).mono ?_
    rintro e w3 ⟨Ac, cc3, rfl, _, hq, hb3⟩
    have hz3 := hb3.size
    have Q3 := Lib.hid hq
    have R3 := Lib.hid (rowIs_below R2.out hb3 (by omega))
    have hb03 := hb02.trans (hb3.mono hb02.size)
    clear hq R2
    go_wp2_with fail
    refine (eval_any m n (n + 1) x _ a w3 0 w3.heap.size ((sq_lent R3.out HA.out.1).wide (Nat.zero_le _) (by omega)) hn (Nat.le_refl _)).mono ?_
    rintro e w4 ⟨rfl, hb4⟩
    have hz4 := hb4.size
    have R4 := Lib.hid (rowIs_below R3.out hb4 (by omega))
    have hb04 := hb03.trans (hb4.mono hb03.size)
    clear R3
    go_wp2_with fail
    refine (kept_any _ n ca A a w4 0 _ R4.out (HA.out.below hb04 (Nat.le_refl _)) (by omega) hb04.size).mono ?_
    rintro e w5 ⟨rfl, hb5⟩
    have hz5 := hb5.size
    have hb05 := hb04.trans (hb5.mono hb04.size)
    clear R4
    go_wp2_with fail
    refine (rwrap_any m n ca K A a w5 0 w.heap.size (HA.out.below hb05 (Nat.le_refl _)) hn hb05.size).mono ?_
    rintro e w6 ⟨Ad, cd, rfl, _, hd, hb6⟩
    have hz6 := hb6.size
    have D6 := Lib.hid hd
    have hb06 := hb05.trans (hb6.mono hb05.size)
    clear hd
    go_wp2_with fail
    refine (reval_any m n ca x A a w6 0 w.heap.size (HA.out.below hb06 (Nat.le_refl _)) hn hb06.size).mono ?_
    rintro e w7 ⟨rfl, hb7⟩
    have hz7 := hb7.size
    have hb07 := hb06.trans (hb7.mono hb06.size)
    have e1 : ((wrE m n a K : Int) == (wrE m n a K : Int)) = true := beq_self_eq_true _
    have e2 : ((evE m n a x : Int) == (evE m n a x : Int)) = true := beq_self_eq_true _
    have e3 : ((evV m n a x : Int) == (evV m n a x : Int)) = true := beq_self_eq_true _
    have hwn : wrN m n a K ≤ 2000 := wrN_le m n a K
    have hb37 := hb4.trans ((hb5.trans ((hb6.trans (hb7.mono hz6)).mono hz5)).mono hz4)
    have HS := Lib.hid (same_any _ _ cc3 cd Ac Ad _ _ w7 _ _ _ _ (Q3.out.below hb37 (Nat.le_refl _)) (D6.out.below hb7 (Nat.le_refl _)) (by omega) (by omega) (by omega) (by omega))
    rw [sameB_refl] at HS
    clear hb37
    go_wp2_with fail
    refine HS.out.mono ?_
    rintro e w8 ⟨rfl, hb8⟩
    have hz8 := hb8.size
    go_wp2_with fail
    refine (awake_any w8).mono ?_
    rintro e w9 ⟨rfl, hb9⟩
    go_wp2
    go_ret
    exact ⟨rfl, hb07.trans ((hb8.trans (hb9.mono hz8)).mono (by omega))⟩
end Go.Proofs.Ytoifjkandmnakaa
