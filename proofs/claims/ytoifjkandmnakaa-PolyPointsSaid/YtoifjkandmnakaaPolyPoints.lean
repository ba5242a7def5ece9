/- The walk of the law PolyPoints. -/
import Derived.Test.YtoifjkandmnakaaRInterp
import Derived.Test.YtoifjkandmnakaaAddSub
namespace Go.Proofs.Ytoifjkandmnakaa
open Go.RowKit

theorem ipR_uniq {m n ny E E' k k' : Nat} {x y f f' : Nat → Nat} (h : IpR m n x ny y E k f) (h' : IpR m n x ny y E' k' f') : E = E' ∧ k = k' ∧ ∀ j, j < k → f j = f' j := by
  unfold IpR at h h'
  by_cases hb : IpBad m n ny
  · rcases h with ⟨_, rfl, rfl⟩ | ⟨h, _⟩ | ⟨h, _⟩ | ⟨h, _⟩ | ⟨h, _⟩ <;> first | exact absurd hb h | skip
    rcases h' with ⟨_, rfl, rfl⟩ | ⟨h, _⟩ | ⟨h, _⟩ | ⟨h, _⟩ | ⟨h, _⟩ <;> first | exact absurd hb h | skip
    exact ⟨rfl, rfl, fun j hj => absurd hj (Nat.not_lt_zero j)⟩
  by_cases hl : 256 < n
  · rcases h with ⟨h, _⟩ | ⟨_, _, rfl, rfl⟩ | ⟨_, h, _⟩ | ⟨_, h, _⟩ | ⟨_, h, _⟩ <;> first | exact absurd h hb | omega | skip
    rcases h' with ⟨h, _⟩ | ⟨_, _, rfl, rfl⟩ | ⟨_, h, _⟩ | ⟨_, h, _⟩ | ⟨_, h, _⟩ <;> first | exact absurd h hb | omega | skip
    exact ⟨rfl, rfl, fun j hj => absurd hj (Nat.not_lt_zero j)⟩
  by_cases hv : IpVal m n x y
  · rcases h with ⟨h, _⟩ | ⟨_, h, _⟩ | ⟨_, _, _, rfl, rfl⟩ | ⟨_, _, h, _⟩ | ⟨_, _, h, _⟩ <;> first | exact absurd h hb | omega | exact absurd hv h | skip
    rcases h' with ⟨h, _⟩ | ⟨_, h, _⟩ | ⟨_, _, _, rfl, rfl⟩ | ⟨_, _, h, _⟩ | ⟨_, _, h, _⟩ <;> first | exact absurd h hb | omega | exact absurd hv h | skip
    exact ⟨rfl, rfl, fun j hj => absurd hj (Nat.not_lt_zero j)⟩
  by_cases ha : Apart m n x
  · rcases h with ⟨h, _⟩ | ⟨_, h, _⟩ | ⟨_, _, h, _⟩ | ⟨_, _, _, h, _⟩ | ⟨_, _, _, _, rfl, h1⟩ <;> first | exact absurd h hb | omega | exact absurd h hv | exact absurd ha h | skip
    rcases h' with ⟨h, _⟩ | ⟨_, h, _⟩ | ⟨_, _, h, _⟩ | ⟨_, _, _, h, _⟩ | ⟨_, _, _, _, rfl, h2⟩ <;> first | exact absurd h hb | omega | exact absurd h hv | exact absurd ha h | skip
    have hm : 2 ≤ m := by unfold IpBad at hb; omega
    obtain ⟨e1, e2⟩ := h1.uniq hm (fun j hj => Nat.lt_of_not_le fun h => hv ⟨j, hj, .inl h⟩) ha h2
    exact ⟨rfl, e1, fun j _ => by rw [e2]⟩
  · rcases h with ⟨h, _⟩ | ⟨_, h, _⟩ | ⟨_, _, h, _⟩ | ⟨_, _, _, _, rfl, rfl⟩ | ⟨_, _, _, h, _⟩ <;> first | exact absurd h hb | omega | exact absurd h hv | exact absurd h ha | skip
    rcases h' with ⟨h, _⟩ | ⟨_, h, _⟩ | ⟨_, _, h, _⟩ | ⟨_, _, _, _, rfl, rfl⟩ | ⟨_, _, _, h, _⟩ <;> first | exact absurd h hb | omega | exact absurd h hv | exact absurd h ha | skip
    exact ⟨rfl, rfl, fun j hj => absurd hj (Nat.not_lt_zero j)⟩
theorem ipR_le {m n ny E k : Nat} {x y f : Nat → Nat} (h : IpR m n x ny y E k f) : k ≤ 256 := by
  rcases h with ⟨_, _, rfl⟩ | ⟨_, _, _, rfl⟩ | ⟨_, _, _, _, rfl⟩ | ⟨_, _, _, _, _, rfl⟩ | ⟨_, h1, _, _, _, h2⟩
  · omega
  · omega
  · omega
  · omega
  · have := h2.le; omega

set_option maxHeartbeats 4000000 in
theorem polyPoints_any (m n nb ca cb : Nat) (A B : Option Addr) (a b : Nat → Nat) (w : World) (ha : Sq .u32 w 0 w.heap.size A n a) (hb : Sq .u32 w 0 w.heap.size B nb b) (hn : n ≤ 9223372036854775807) (hnb : nb ≤ 9223372036854775807) (hm : m ≤ 4294967295) :
    Calls Try.prog 10 #[.int .u32 m, .slice A n ca, .slice B nb cb] w (RetV w (.bool true)) := by
  have HL := Lib.hid (large2_call n nb ca cb A B w hn hnb)
  by_cases c1 : 30 < n ∧ n ≤ 256
  · have d1 : decide ((n : Int) > 30) = true := decide_eq_true (by omega)
    have d2 : decide ((n : Int) ≤ 256) = true := decide_eq_true (by omega)
    clear c1 ha hb HL
    go_enter Try.func10, Try.ntmps10
    go_wp2_with fail
    refine (awake_any w).mono ?_
    rintro e w2 ⟨rfl, hb2⟩
    go_wp2
    go_ret
    exact ⟨rfl, hb2⟩
  have h1 : (decide ((n : Int) > 30) = false) ∨ (decide ((n : Int) > 30) = true ∧ decide ((n : Int) ≤ 256) = false) := by
    by_cases h : 30 < n
    · exact .inr ⟨decide_eq_true (by omega), decide_eq_false (by omega)⟩
    · exact .inl (decide_eq_false (by omega))
  by_cases hlong : 300 < n ∨ 300 < nb
  · rw [anyLong2_true hlong] at HL
    clear hlong ha hb c1
    rcases h1 with d1 | ⟨d1, d2⟩
    all_goals
      go_enter Try.func10, Try.ntmps10
      go_wp2_with fail
      refine (HL.out _ rfl).mono ?_
      rintro e w1 ⟨rfl, hb1⟩
      go_wp2_with fail
      refine (awake_any w1).mono ?_
      rintro e w2 ⟨rfl, hb2⟩
      go_wp2
      go_ret
      exact ⟨rfl, hb1.trans (hb2.mono hb1.size)⟩
  · rw [anyLong2_false hlong] at HL
    have hn3 : n ≤ 300 := by omega
    have hnb3 : nb ≤ 300 := by omega
    have HA := Lib.hid ha
    have HB := Lib.hid hb
    clear hlong ha hb c1
    rcases h1 with d1 | ⟨d1, d2⟩
    all_goals
      go_enter Try.func10, Try.ntmps10
      go_wp2_with fail
      refine (HL.out _ rfl).mono ?_
      rintro e w0 ⟨rfl, hb0⟩
      go_wp2_with fail
      refine (lent_any A n ca a w0 _ _ (HA.out.below hb0 (Nat.le_refl _)) (by omega) hb0.size).mono ?_
      rintro e w1 ⟨rfl, hr1, hb1, hs1⟩
      have hb01 := hb0.trans (hb1.mono hb0.size)
      go_wp2_with fail
      refine (lent_any B nb cb b w1 _ _ (HB.out.below hb01 (Nat.le_refl _)) (by omega) hb01.size).mono ?_
      rintro e w2 ⟨rfl, hr2, hb2, hs2⟩
      have hz0 := hb0.size
      have hb02 := hb01.trans (hb2.mono hb01.size)
      have hr1' := rowIs_below hr1 hb2 hs1
      have R1 := Lib.hid hr1'
      have R2 := Lib.hid hr2
      clear hr1 hr2 hr1'
      go_wp2_with fail
      refine (interp_any m n nb _ _ _ _ a b w2 ((sq_lent R1.out HA.out.1).wide (Nat.zero_le _) (by omega)) ((sq_lent R2.out HB.out.1).wide (Nat.zero_le _) (by omega)) hn hnb hm).mono ?_
      rintro e w3 ⟨Aq, cq, E1, kq, fq, rfl, hcq, hq, hip1, hb3⟩
      have HI1 := Lib.hid hip1
      clear hip1
      have hz3 := hb3.size
      have R1' := Lib.hid (rowIs_below R1.out hb3 (by omega))
      have R2' := Lib.hid (rowIs_below R2.out hb3 (by omega))
      have hb03 := hb02.trans (hb3.mono hb02.size)
      have Q := Lib.hid hq
      clear hq
      go_wp2_with fail
      refine (kept_any _ n ca A a w3 0 _ R1'.out (HA.out.below hb03 (Nat.le_refl _)) (by omega) hb03.size).mono ?_
      rintro e w4 ⟨rfl, hb4⟩
      have hz4 := hb4.size
      have hb04 := hb03.trans (hb4.mono hb03.size)
      have R1'' := Lib.hid (rowIs_below R1'.out hb4 R1'.out.lt)
      have R2'' := Lib.hid (rowIs_below R2'.out hb4 R2'.out.lt)
      go_wp2_with fail
      refine (kept_any _ nb cb B b w4 0 _ R2''.out (HB.out.below hb04 (Nat.le_refl _)) (by omega) hb04.size).mono ?_
      rintro e w5 ⟨rfl, hb5⟩
      have hz5 := hb5.size
      have hb05 := hb04.trans (hb5.mono hb04.size)
      have S1 := Lib.hid (rowIs_below R1''.out hb5 R1''.out.lt)
      have S2 := Lib.hid (rowIs_below R2''.out hb5 R2''.out.lt)
      have Q5 := Lib.hid ((Q.out.below hb4 (Nat.le_refl _)).below hb5 hz4)
      clear R1 R2 R1' R2' R1'' R2'' Q
      go_wp2_with fail
      refine (spoil_any w0.heap.size 22 n (n + 1) (n + 1) _ w5 S1.out (by omega) (by omega)).mono ?_
      rintro e w6 ⟨rfl, _, hg6, hz6⟩
      have S2' := Lib.hid (rowIs_grown S2.out hg6 (by omega))
      have hb06 := hb05.grown hg6 (by omega) (fun g hg => by injection hg with hg; omega)
      have Q6 := Lib.hid (Q5.out.grown hg6 (.inl (by omega)) (by omega))
      clear Q5 S1 S2
      go_wp2_with fail
      refine (spoil_any w1.heap.size 22 nb (nb + 1) (nb + 1) _ w6 S2'.out (by omega) (by omega)).mono ?_
      rintro e w7 ⟨rfl, _, hg7, hz7⟩
      have hb07 := hb06.grown hg7 (by omega) (fun g hg => by injection hg with hg; omega)
      have Q7 := Lib.hid (Q6.out.grown hg7 (.inl (by omega)) (by omega))
      clear Q6 S2'
      go_wp2_with fail
      have hz7' := hb07.size
      refine (rinterp_any m n nb ca cb A B a b w7 w.heap.size (HA.out.below hb07 (Nat.le_refl _)) (HB.out.below hb07 (Nat.le_refl _)) hz7' hn hnb hm).mono ?_
      rintro e w8 ⟨Ac, cc, E2, kc, fc, rfl, hcc, hc, hip2, hb8⟩
      have hle := ipR_le hip2
      obtain ⟨rfl, rfl, hff⟩ := ipR_uniq HI1.out hip2
      have hz8 := hb8.size
      have hb08 := hb07.trans (hb8.mono hz7')
      have Q8 := Lib.hid (Q7.out.below hb8 (by omega))
      have C8 := Lib.hid hc
      have hee : ((E1 : Int) == (E1 : Int)) = true := beq_self_eq_true _
      clear hc Q7 hip2
      have HS1 := Lib.hid (same_any _ _ cq cc Aq Ac _ _ w8 _ _ _ _ Q8.out C8.out (by omega) (by omega) (by omega) (Nat.le_refl _))
      rw [sameB_true.2 ⟨rfl, hff⟩] at HS1
      go_wp2_with fail
      refine HS1.out.mono ?_
      rintro e w9 ⟨rfl, hb9⟩
      have hz9 := hb9.size
      go_wp2_with fail
      refine (awake_any w9).mono ?_
      rintro e w11 ⟨rfl, hb11⟩
      go_wp2
      go_ret
      exact ⟨rfl, hb08.trans ((hb9.trans (hb11.mono hz9)).mono (by omega))⟩
end Go.Proofs.Ytoifjkandmnakaa
