/- The walk of the law PolyPowers. -/
import Derived.Test.YtoifjkandmnakaaRPowMod
import Derived.Test.YtoifjkandmnakaaPolyWraps
namespace Go.Proofs.Ytoifjkandmnakaa
open Go.RowKit

theorem pwP_le {m n nb N : Nat} {a b : Nat → Nat} (hn : ∀ j, n ≤ j → a j = 0) (hb : ∀ j, nb ≤ j → b j = 0) : (pwP m n a N nb b).1 ≤ 1000 := by
  unfold pwP
  split
  · rename_i h
    have hc : chk2 m n a nb b = 0 := by
      unfold dvE at h
      split at h
      · assumption
      · rename_i h2; exact absurd h h2
    obtain ⟨hc1, hc2⟩ := chk2_zero hc
    obtain ⟨m1, m2, n1, _, n3⟩ := chk_zero hc1
    obtain ⟨_, _, b1, _, _⟩ := chk_zero hc2
    have hA := vals_lt hc1 hn
    have hB := vals_lt hc2 hb
    rcases hu : unitF m nb b with ⟨iv, t⟩
    cases t
    · unfold dvE at h
      rw [if_pos hc, hu] at h
      cases h
    · obtain ⟨hnb0, hiv, hinv⟩ := unitF_true hu m1 (hB _)
      have key : ∀ k N (o x : Nat × (Nat → Nat)), Res m o → Res m x → o.1 < nb → (powP m nb b iv k N o x).1 < nb := by
        intro k
        induction k with
        | zero => intro N o x _ _ h; exact h
        | succ k ih =>
          intro N o x ho hx h
          rw [powP_succ]
          split
          · exact h
          · have q1 := res_prod ho hx (show 0 < m by omega)
            have q2 := res_prod hx hx (show 0 < m by omega)
            have q3 := res_rest (nb := nb) (iv := iv) (b := b) q1.1 (by omega) hnb0 hinv hb
            have q4 := res_rest (nb := nb) (iv := iv) (b := b) q2.1 (by omega) hnb0 hinv hb
            refine ih _ _ _ ?_ q4.1 ?_
            · split
              · exact q3.1
              · exact ho
            · split
              · exact q3.2.1
              · exact h
      have q1 := res_rest (nb := nb) (iv := iv) (b := b) (res_one m1) (by omega) hnb0 hinv hb
      have q2 := res_rest (p := (n, a)) (nb := nb) (iv := iv) (b := b) ⟨hA, hn, tl_of_last n3⟩ (by omega) hnb0 hinv hb
      have := key 64 N _ _ q1.1 q2.1 q1.2.1
      exact Nat.le_trans (Nat.le_of_lt this) (by omega)
  · exact Nat.zero_le _

theorem u64_arg {a : Int} (h : (Lit.int .u64 a).wf = true) : ∃ m : Nat, a = (m : Int) ∧ m < 18446744073709551616 := by
  simp [Lit.wf, IntKind.min, IntKind.max, IntKind.signed, IntKind.bits] at h
  exact ⟨a.toNat, by omega, by omega⟩

set_option maxHeartbeats 2000000 in
theorem polyPowers_any (m n nb nc ca cb cc x N : Nat) (K : Int) (A B C : Option Addr) (a b : Nat → Nat) (w : World) (ha : Sq .u32 w 0 w.heap.size A n a) (hb : Sq .u32 w 0 w.heap.size B nb b) (hn : n ≤ 9223372036854775807) (hnb : nb ≤ 9223372036854775807) (hN : N < 18446744073709551616) :
    Calls Try.prog 6 #[.agg #[.int .u32 (m : Int), .slice A n ca, .slice B nb cb, .slice C nc cc, .int .u64 (N : Int), .int .i64 K, .int .u32 (x : Int)]] w (RetV w (.bool true)) := by
  have HA := Lib.hid ha
  have HB := Lib.hid hb
  have hbx := (Below.refl w.heap.size w).alloc (Nat.le_refl _) (.cells #[.int .u32 (m : Int), .slice A n ca, .slice B nb cb, .slice C nc cc, .int .u64 (N : Int), .int .i64 K, .int .u32 (x : Int)] 35)
  clear ha hb
  go_enter Try.func6, Try.ntmps6
  go_wp2_with fail
  go_quiet (fail)
  have hb0 := below_drewN hbx nq
  generalize World.drewN (w.alloc _) nq = w0 at hb0 ⊢
  clear hbx
  have hz0 := hb0.size
  have HL := Lib.hid (large2_call n nb ca cb A B w0 hn hnb)
  by_cases hmid : 40 < nb ∧ nb ≤ 256
  · have hd1 : decide ((nb : Int) > 40) = true := decide_eq_true (by omega)
    have hd2 : decide ((nb : Int) ≤ 256) = true := decide_eq_true (by omega)
    clear hmid HA HB HL
    go_wp2_with fail
    refine (awake_any w0).mono ?_
    rintro e w2 ⟨rfl, hb2⟩
    go_wp2
    go_ret
    exact ⟨rfl, hb0.trans (hb2.mono hz0)⟩
  · have hcase : (decide ((nb : Int) > 40) = false) ∨ (decide ((nb : Int) > 40) = true ∧ decide ((nb : Int) ≤ 256) = false) := by
      by_cases h : 40 < nb
      · exact .inr ⟨decide_eq_true (by omega), decide_eq_false (by omega)⟩
      · exact .inl (decide_eq_false (by omega))
    clear hmid
    rcases hcase with hd1 | ⟨hd1, hd2⟩
    all_goals
      by_cases hlong : 300 < n ∨ 300 < nb
      · rw [anyLong2_true hlong] at HL
        clear hlong HA HB
        go_wp2_with fail
        refine (HL.out _ rfl).mono ?_
        rintro e w1 ⟨rfl, hb1⟩
        go_wp2_with fail
        refine (awake_any w1).mono ?_
        rintro e w2 ⟨rfl, hb2⟩
        go_wp2
        go_ret
        exact ⟨rfl, hb0.trans ((hb1.trans (hb2.mono hb1.size)).mono hz0)⟩
      · rw [anyLong2_false hlong] at HL
        have hn3 : n ≤ 300 := by omega
        have hnb3 : nb ≤ 300 := by omega
        clear hlong
        go_wp2_with fail
        refine (HL.out _ rfl).mono ?_
        rintro e w1 ⟨rfl, hb1⟩
        have hb01 := hb0.trans (hb1.mono hz0)
        have hz1 := hb01.size
        go_wp2_with fail
        refine (lent_any A n ca a w1 _ _ (HA.out.below hb01 (Nat.le_refl _)) (by omega) hz1).mono ?_
        rintro e w2 ⟨rfl, hr2, hb2, hs2⟩
        have hb02 := hb01.trans (hb2.mono hz1)
        have hz2 := hb02.size
        go_wp2_with fail
        refine (lent_any B nb cb b w2 _ _ (HB.out.below hb02 (Nat.le_refl _)) (by omega) hz2).mono ?_
        rintro e w3 ⟨rfl, hr3, hb3, hs3⟩
        have hb03 := hb02.trans (hb3.mono hz2)
        have hz3 := hb3.size
        have R1 := Lib.hid (rowIs_below hr2 hb3 hs2)
        have R2 := Lib.hid hr3
        clear hr2 hr3
        go_wp2_with fail
        refine (powmod_any m n nb _ _ N _ _ a b w3 ((sq_lent R1.out HA.out.1).wide (Nat.zero_le _) (by omega)) ((sq_lent R2.out HB.out.1).wide (Nat.zero_le _) (by omega)) hn hnb hN).mono ?_
        rintro e w4 ⟨Ac, cc4, rfl, _, hq, hb4⟩
        have hz4 := hb4.size
        have Q4 := Lib.hid hq
        have R1' := Lib.hid (rowIs_below R1.out hb4 (by omega))
        have R2' := Lib.hid (rowIs_below R2.out hb4 (by omega))
        have hb04 := hb03.trans (hb4.mono hb03.size)
        clear hq R1 R2
        go_wp2_with fail
        refine (kept_any _ n ca A a w4 0 _ R1'.out (HA.out.below hb04 (Nat.le_refl _)) (by omega) hb04.size).mono ?_
        rintro e w5 ⟨rfl, hb5⟩
        have hz5 := hb5.size
        have hb05 := hb04.trans (hb5.mono hb04.size)
        have R2'' := Lib.hid (rowIs_below R2'.out hb5 R2'.out.lt)
        clear R1' R2'
        go_wp2_with fail
        refine (kept_any _ nb cb B b w5 0 _ R2''.out (HB.out.below hb05 (Nat.le_refl _)) (by omega) hb05.size).mono ?_
        rintro e w6 ⟨rfl, hb6⟩
        have hz6 := hb6.size
        have hb06 := hb05.trans (hb6.mono hb05.size)
        clear R2''
        go_wp2_with fail
        refine (rpowmod_any m n nb ca cb N A B a b w6 w.heap.size (HA.out.below hb06 (Nat.le_refl _)) (HB.out.below hb06 (Nat.le_refl _)) hb06.size hn hnb hN).mono ?_
        rintro e w7 ⟨Ad, cd, rfl, _, hd, hb7⟩
        have hz7 := hb7.size
        have D7 := Lib.hid hd
        have hb07 := hb06.trans (hb7.mono hb06.size)
        clear hd
        have e1 : ((dvE m n a nb b : Int) == (dvE m n a nb b : Int)) = true := beq_self_eq_true _
        have hwn : (pwP m n a N nb b).1 ≤ 1000 := pwP_le HA.out.1 HB.out.1
        have hb47 := hb5.trans ((hb6.trans (hb7.mono hz6)).mono hz5)
        have HS := Lib.hid (same_any _ _ cc4 cd Ac Ad _ _ w7 _ _ _ _ (Q4.out.below hb47 (Nat.le_refl _)) D7.out (by omega) (by omega) (by omega) (Nat.le_refl _))
        rw [sameB_refl] at HS
        clear hb47
        go_wp2_with fail
        refine HS.out.mono ?_
        rintro e w8 ⟨rfl, hb8⟩
        have hz8 := hb8.size
        go_wp2_with fail
        refine (awake_any w8).mono ?_
        rintro e w9 ⟨rfl, hb9⟩
        go_wp2
        go_ret
        exact ⟨rfl, hb07.trans ((hb8.trans (hb9.mono hz8)).mono (by omega))⟩
end Go.Proofs.Ytoifjkandmnakaa
