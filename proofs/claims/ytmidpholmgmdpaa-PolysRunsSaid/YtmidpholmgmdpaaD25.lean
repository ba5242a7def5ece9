/- The contracts of Depth of layer 25, the program's and the reference's. -/
import Derived.Test.YtmidpholmgmdpaaRC25
import Derived.Test.YtmidpholmgmdpaaDp25
import Derived.Test.YtmidpholmgmdpaaRT25
namespace Go.Proofs.Ytmidpholmgmdpaa
open Go.RowKit
set_option linter.unusedVariables false
theorem eInt' : ElemOf Try.prog 69 3 .i64 8 := ⟨Try.underlying69, by kernel_rfl⟩
theorem toNat_reg {a : Int} {m : Nat} (h0 : 0 ≤ a) (h1 : a < ((m + 1 : Nat) : Int)) : ∃ k : Nat, a = (k : Int) ∧ k ≤ m := ⟨a.toNat, by omega, by omega⟩
/-- a row of the call's own that has one number more -/
theorem trI_one {f : Nat → Int} (j : Nat) : trI (0 + 1) f j = Z.oneF (f 0) j := by
  unfold trI Z.oneF
  by_cases h : j = 0
  · subst h; rw [if_pos (by omega), if_pos rfl]
  · rw [if_neg (by omega), if_neg h]
theorem own_one {w : World} {v : Int} {e : Nat} {f : Nat → Int} (hf : f 0 = v) : Z.Own .i64 (w.alloc (.cells #[.int .i64 v] e)) w.heap.size e (some ⟨w.heap.size, 0, none⟩) (0 + 1) 1 (trI (0 + 1) f) := by
  refine Z.Own.of_row (f := f) ?_ (Nat.le_refl _) (by omega) (by unfold maxLen; omega) (fun j hj => by unfold trI; rw [if_neg (by omega)]) (fun j hj => by unfold trI; rw [if_pos (by omega)])
  subst hf
  exact World.rowIs_alloc w #[.int .i64 (f 0)] e _ fun i hi => by
    obtain rfl : i = 0 := by simp at hi; omega
    rfl

set_option maxRecDepth 100000 in
set_option maxHeartbeats 40000000 in
theorem depth25_any (t n c : Nat) (A : Option Addr) (s : Nat → PS) (w : World) (ht : t ≤ 4294967295) (hs : Pln w w.heap.size A n s) (hn : n ≤ 9223372036854775807) :
    Calls Try.prog 23 #[.int .u32 t, .slice A n c] w (RetDp w (depV t n s) (chkE t n s)) := by
  have HC := Lib.hid (check25_any t n c A s w ht hs hn)
  have HS := Lib.hid hs
  clear hs
  by_cases he : chkE t n s = 0
  rotate_left
  · have HE : Hid (depV t n s = 0) := Lib.hid (by unfold depV; rw [if_neg he])
    obtain ⟨E, hE⟩ : ∃ E, chkE t n s = E := ⟨_, rfl⟩
    rw [hE] at HC he ⊢
    have e1 : (E != 0) = true := by simp [he]
    clear he hE
    go_enter Try.func23, Try.ntmps23
    go_wp2_with fail
    refine HC.out.mono ?_
    rintro e w1 ⟨rfl, hb1⟩
    go_wp2_with fail
    go_ret2
    exact ⟨by rw [HE.out]; rfl, hb1⟩
  obtain ⟨hmb, hn6, hok⟩ := chkE_ok he
  have HE : Hid (depV t n s = depD s n) := Lib.hid (by unfold depV; rw [if_pos he])
  have HOK := Lib.hid hok
  rw [he] at HC ⊢
  clear he hmb hok
  go_enter Try.func23, Try.ntmps23
  go_wp2_with fail
  refine HC.out.mono ?_
  rintro e w1 ⟨rfl, hb1⟩
  have HB1 := Lib.hid hb1
  have hz1 := hb1.size
  clear hb1
  go_wp2_with fail
  have HO1 : Hid (Z.Own .i64 (w1.alloc (.cells #[.int .i64 0] 3)) w1.heap.size 3 (some ⟨w1.heap.size, 0, none⟩) (0 + 1) 1 (trI (0 + 1) (depD s))) := Lib.hid (own_one (depD_zero s))
  have HBA : Hid (Below w1.heap.size w1 (w1.alloc (.cells #[.int .i64 0] 3))) := Lib.hid ((Below.refl _ w1).alloc (Nat.le_refl _) _)
  go_loopw [7, 22] (fun L I wr => ∃ (i : Nat) (B : Option Addr) (cB : Nat), i ≤ n ∧ L = .slice B (i + 1) cB ∧ I = .int .i64 (i : Int) ∧ Z.Own .i64 wr w1.heap.size 3 B (i + 1) cB (trI (i + 1) (depD s)) ∧ Below w1.heap.size w1 wr) (fun _ I _ => n - (intOf I).toNat)
  case atStart => exact ⟨0, _, 1, Nat.zero_le _, rfl, rfl, HO1.out, HBA.out⟩
  case round =>
    obtain ⟨i, B, cB, hin, rfl, rfl, hown, hbl⟩ := hrel
    have HOWN := Lib.hid hown
    have HBE := Lib.hid hbl
    have hzr := hbl.size
    clear hown hbl
    by_cases hi : i < n
    rotate_left
    · obtain rfl : n = i := by omega
      have e3 : decide ((n : Int) < (n : Int)) = false := decide_eq_false (by omega)
      obtain ⟨g, off, hB, _, hg, hcell⟩ := (HOWN.out.sq (Nat.le_refl _)).2 (by omega)
      have k1 := hcell n (by omega)
      rw [show trI (n + 1) (depD s) n = depD s n from by unfold trI; rw [if_pos (by omega)]] at k1
      obtain ⟨v, hv⟩ : ∃ v, depD s n = v := ⟨_, rfl⟩
      rw [hv] at k1
      rw [hB]
      have i1 : (n : Int) < ((n : Int) + 1) := by omega
      have i0 : 0 ≤ (n : Int) := by omega
      clear hcell hB
      have HV := Lib.hid hv
      clear hv
      go_wp2
      go_ret2
      exact ⟨by rw [HE.out, HV.out]; rfl, HB1.out.trans (HBE.out.mono hz1)⟩
    have e3 : decide ((i : Int) < (n : Int)) = true := decide_eq_true (by omega)
    obtain ⟨g, off, hAe, hg, hst⟩ := (HS.out.below HB1.out).below (HBE.out.mono hz1) (by omega)
    obtain ⟨k0, k1, k2, k3, C, cC, k4, hsq, hsn⟩ := hst i hi
    rw [hAe]
    have i0 : 0 ≤ (i : Int) := by omega
    have i1 : (i : Int) < (n : Int) := by omega
    have hstep := HOK.out i hi
    have hnext := depD_succ hstep
    obtain ⟨S, hS⟩ : ∃ x, s i = x := ⟨_, rfl⟩
    rw [hS] at k0 k1 k2 k3 k4 hsq hsn hstep hnext
    obtain ⟨sm, sa, sb, sf, sn, cs⟩ := S
    simp only at k0 k1 k2 k3 k4 hsq hsn
    have HNX := Lib.hid hnext
    obtain ⟨w9, hw9⟩ : ∃ w9, w9 = wr.alloc (.cells #[.bool sm, .int .i64 sa, .int .i64 sb, .int .i64 sf, .slice C sn cC] 37) := ⟨_, rfl⟩
    have hb9 : Below wr.heap.size wr w9 := by rw [hw9]; exact (Below.refl _ wr).alloc (Nat.le_refl _) _
    have HB9 := Lib.hid (HBE.out.trans (hb9.mono hzr))
    have hz9 := hb9.size
    have HO9 := Lib.hid (HOWN.out.below hb9 (Nat.le_refl _))
    have HQ9 := Lib.hid (hsq.below (hb9.mono (Nat.le_trans hz1 hzr)) (Nat.le_refl _))
    obtain ⟨gB, offB, rfl, _, hgB, hcB⟩ := (HO9.out.sq (Nat.le_refl _)).2 (by omega)
    have q0 : w9.cell? ⟨wr.heap.size, 0, none⟩ = some (.bool sm) := by rw [hw9, World.cell?_alloc_new]; rfl
    have q1 : w9.cell? ⟨wr.heap.size, 1, none⟩ = some (.int .i64 sa) := by rw [hw9, World.cell?_alloc_new]; rfl
    have q2 : w9.cell? ⟨wr.heap.size, 2, none⟩ = some (.int .i64 sb) := by rw [hw9, World.cell?_alloc_new]; rfl
    have q4 : w9.cell? ⟨wr.heap.size, 4, none⟩ = some (.slice C sn cC) := by rw [hw9, World.cell?_alloc_new]; rfl
    have HBD : Hid (∀ j : Nat, j ≤ i → 0 ≤ depD s j ∧ depD s j ≤ j) := Lib.hid fun j hj => depD_bound HOK.out j (by omega)
    have HW9 := Lib.hid hw9
    clear hst hsq hAe hS hnext hb9 hw9
    cases sm with
    | true =>
      unfold stepOk at hstep
      rw [if_pos rfl] at hstep
      obtain ⟨⟨a0, a1, b0, b1⟩, f0, n0⟩ := hstep
      simp only at a0 a1 b0 b1 f0 n0
      subst f0
      subst n0
      obtain ⟨a, rfl, ha⟩ := toNat_reg a0 a1
      obtain ⟨b, rfl, hb⟩ := toNat_reg b0 b1
      have m1 := hcB a (by omega)
      have m2 := hcB b (by omega)
      rw [show trI (i + 1) (depD s) a = depD s a from by unfold trI; rw [if_pos (by omega)]] at m1
      rw [show trI (i + 1) (depD s) b = depD s b from by unfold trI; rw [if_pos (by omega)]] at m2
      have d1 := HBD.out a ha
      have d2 := HBD.out b hb
      obtain ⟨x, hx⟩ : ∃ v, depD s a = v := ⟨_, rfl⟩
      obtain ⟨y, hy⟩ : ∃ v, depD s b = v := ⟨_, rfl⟩
      rw [hx] at m1 d1
      rw [hy] at m2 d2
      have j1 : (a : Int) < ((i : Int) + 1) := by omega
      have j2 : (b : Int) < ((i : Int) + 1) := by omega
      have j3 : 0 ≤ (a : Int) := by omega
      have j4 : 0 ≤ (b : Int) := by omega
      have HF : Hid (depD s (i + 1) = 1 + (if y > x then y else x)) := Lib.hid (by
        rw [HNX.out]
        unfold dst mxs
        rw [if_pos rfl]
        simp only [Int.toNat_natCast]
        rw [hx, hy])
      clear hcB hx hy
      by_cases hxy : y > x
      all_goals
        (first | rw [if_pos hxy] at HF | rw [if_neg hxy] at HF)
        go_wp2
        rw [← HW9.out]
        go_region
        all_goals (try go_wp2)
        go_loopw [10, 43] (fun D K w' => D = .int .i64 (depD s (i + 1)) ∧ K = .int .i64 0 ∧ w' = w9.drew) (fun _ _ _ => 0)
        case atStart => exact ⟨by rw [HF.out], rfl, rfl⟩
        case round =>
          obtain ⟨rfl, rfl, rfl⟩ := hrel
          have HO9d : Hid (Z.Own .i64 w9.drew w1.heap.size 3 (some ⟨gB, offB, none⟩) (i + 1) cB (trI (i + 1) (depD s))) := Lib.hid HO9.out
          have hz9d : w9.drew.heap.size = w9.heap.size := rfl
          have HV : Hid (Value.int .i64 (depD s (i + 1)) = .int .i64 (depD s (i + 1))) := Lib.hid rfl
          go_wp2_with (at_builtin; refine Z.wpl_append rfl _ _ _ rfl eInt' rfl (HO9d.out.alloc _) rfl (Z.sq_one (x := depD s (i + 1)) (lo := 0) HV.out (Nat.zero_le _) (Nat.lt_succ_self _)) (trI (i + 1 + 1) (depD s)) (fun j hj => trI_lt hj) trI_add (by unfold maxLen; omega) (by omega) (by simp; omega) ?_; intro B3 cB3 w3 hown3 hg3 hb3 hat3)
          go_roundw
          case rel => exact ⟨i + 1, B3, cB3, hi, rfl, by go_num, hown3, (HB9.out.drew).trans (((Below.refl _ _).alloc (by first | omega | (rw [World.size_drew]; omega) | (show _ ≤ w9.heap.size; omega)) _).trans hb3)⟩
          case measure => simp only [intOf]; omega
    | false =>
      have hstep2 := hstep
      unfold stepOk at hstep2
      rw [if_neg Bool.false_ne_true] at hstep2
      obtain ⟨a0, b0, n0, f0, _⟩ := hstep2
      simp only at a0 b0 n0 f0
      subst a0
      subst b0
      have HF : Hid (depD s (i + 1) = mxs (depD s) cs 0 sn) := Lib.hid (by
        rw [HNX.out]
        unfold dst
        rw [if_neg Bool.false_ne_true])
      have HCB := Lib.hid hcB
      clear hcB hstep
      go_wp2
      rw [← HW9.out]
      go_loopw [10, 43] (fun D K w' => ∃ k : Nat, D = .int .i64 (mxs (depD s) cs 0 k) ∧ K = .int .i64 (k : Int) ∧ k ≤ sn ∧ w' = w9) (fun _ K _ => sn - (intOf K).toNat)
      case atStart => exact ⟨0, rfl, rfl, Nat.zero_le _, by trivial⟩
      case round =>
        obtain ⟨k, rfl, rfl, hk, rfl⟩ := hrel
        by_cases hks : k < sn
        · have e5 : decide ((k : Int) < (sn : Int)) = true := decide_eq_true (by omega)
          obtain ⟨g2, off2, hC, _, hg2, hcell⟩ := HQ9.out.2 (by omega)
          have k5 := hcell k (by omega)
          have k6 := HCB.out k (by omega)
          rw [show trI (i + 1) (depD s) k = depD s k from by unfold trI; rw [if_pos (by omega)]] at k6
          obtain ⟨v, hv⟩ : ∃ v, cs k = v := ⟨_, rfl⟩
          obtain ⟨y, hy⟩ : ∃ v, depD s k = v := ⟨_, rfl⟩
          obtain ⟨x, hx⟩ : ∃ v, mxs (depD s) cs 0 k = v := ⟨_, rfl⟩
          rw [hv] at k5
          rw [hy] at k6
          rw [hC]
          have j0 : 0 ≤ (k : Int) := by omega
          have j1 : (k : Int) < (sn : Int) := by omega
          have j2 : (k : Int) < ((i : Int) + 1) := by omega
          have hM : mxs (depD s) cs 0 (k + 1) = if v = 0 then x else if y > x then y else x := by rw [mxs, hv, hy, hx]
          rw [hx]
          clear hcell hv hy hx hC
          have hcase : v = 0 ∨ (v ≠ 0 ∧ y > x) ∨ (v ≠ 0 ∧ ¬ y > x) := by omega
          rcases hcase with rfl | ⟨hv0, hyx⟩ | ⟨hv0, hyx⟩
          · have HM : Hid (mxs (depD s) cs 0 (k + 1) = x) := Lib.hid (by rw [hM, if_pos rfl])
            clear hM
            go_wp2
            go_roundw
            case rel => exact ⟨k + 1, by rw [HM.out], by go_num, hks, by trivial⟩
            case measure => simp only [intOf]; omega
          · have HM : Hid (mxs (depD s) cs 0 (k + 1) = y) := Lib.hid (by rw [hM, if_neg hv0, if_pos hyx])
            clear hM
            have d5 : decide (v ≠ 0) = true := decide_eq_true hv0
            go_wp2
            go_roundw
            case rel => exact ⟨k + 1, by rw [HM.out], by go_num, hks, by trivial⟩
            case measure => simp only [intOf]; omega
          · have HM : Hid (mxs (depD s) cs 0 (k + 1) = x) := Lib.hid (by rw [hM, if_neg hv0, if_neg hyx])
            clear hM
            have d5 : decide (v ≠ 0) = true := decide_eq_true hv0
            go_wp2
            go_roundw
            case rel => exact ⟨k + 1, by rw [HM.out], by go_num, hks, by trivial⟩
            case measure => simp only [intOf]; omega
        · obtain rfl : sn = k := by omega
          have e5 : decide ((sn : Int) < (sn : Int)) = false := decide_eq_false (by omega)
          have HV : Hid (Value.int .i64 (mxs (depD s) cs 0 sn) = .int .i64 (depD s (i + 1))) := Lib.hid (by rw [HF.out])
          go_wp2_with (at_builtin; refine Z.wpl_append rfl _ _ _ rfl eInt' rfl (HO9.out.alloc _) rfl (Z.sq_one (x := depD s (i + 1)) (lo := 0) HV.out (Nat.zero_le _) (Nat.lt_succ_self _)) (trI (i + 1 + 1) (depD s)) (fun j hj => trI_lt hj) trI_add (by unfold maxLen; omega) (by omega) (by simp; omega) ?_; intro B3 cB3 w3 hown3 hg3 hb3 hat3)
          go_roundw
          case rel => exact ⟨i + 1, B3, cB3, hi, rfl, by go_num, hown3, HB9.out.trans (((Below.refl _ _).alloc (by first | omega | (rw [hz9d]; omega)) _).trans hb3)⟩
          case measure => simp only [intOf]; omega
end Go.Proofs.Ytmidpholmgmdpaa
