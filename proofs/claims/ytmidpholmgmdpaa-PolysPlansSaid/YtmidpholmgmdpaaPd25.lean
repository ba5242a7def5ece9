/- The contract of the reference's product of layer 25. -/
import Derived.Test.YtmidpholmgmdpaaNd25
namespace Go.Proofs.Ytmidpholmgmdpaa
open Go.RowKit
set_option linter.unusedVariables false

/-- the coefficients of a product behind i rows and j elements of the next row -/
def pdc (f g : Nat → Int) (i j : Nat) : Nat → Int := fun q => zsum (fun u => if u ≤ q then f u * g (q - u) else 0) i + (if i ≤ q ∧ q < i + j then f i * g (q - i) else 0)
theorem pdc_zero (f g : Nat → Int) (q : Nat) : pdc f g 0 0 q = 0 := by
  unfold pdc
  rw [if_neg (by omega)]
  rfl
theorem pdc_row {f g : Nat → Int} {n2 : Nat} (hg : ∀ j, n2 ≤ j → g j = 0) (i q : Nat) : pdc f g i n2 q = pdc f g (i + 1) 0 q := by
  unfold pdc
  show _ = zsum (fun u => if u ≤ q then f u * g (q - u) else 0) i + (if i ≤ q then f i * g (q - i) else 0) + _
  rw [if_neg (show ¬ (i + 1 ≤ q ∧ q < i + 1 + 0) by omega), Int.add_zero]
  by_cases h : i ≤ q
  · rw [if_pos h]
    by_cases h2 : q < i + n2
    · rw [if_pos ⟨h, h2⟩]
    · rw [if_neg (by omega), hg (q - i) (by omega), Int.mul_zero]
  · rw [if_neg (by omega), if_neg h]
theorem pdc_other (f g : Nat → Int) (i j q : Nat) (h : q ≠ i + j) : pdc f g i (j + 1) q = pdc f g i j q := by
  unfold pdc
  by_cases h2 : i ≤ q ∧ q < i + j
  · rw [if_pos h2, if_pos (by omega)]
  · rw [if_neg h2, if_neg (by omega)]
theorem pdc_here (f g : Nat → Int) (i j : Nat) : pdc f g i (j + 1) (i + j) = pdc f g i j (i + j) + f i * g j := by
  unfold pdc
  rw [if_pos (by omega), if_neg (by omega), Nat.add_sub_cancel_left, Int.add_zero]
theorem zsum_pad (F : Nat → Int) (n k : Nat) (h : ∀ i, n ≤ i → F i = 0) : zsum F (n + k) = zsum F n := by
  induction k with
  | zero => rfl
  | succ k ih =>
    show zsum F (n + k) + F (n + k) = _
    rw [ih, h (n + k) (by omega), Int.add_zero]
theorem pdc_all {f g : Nat → Int} {n1 : Nat} (hf : ∀ j, n1 ≤ j → f j = 0) (q : Nat) : pdc f g n1 0 q = cnv f g q := by
  unfold pdc cnv
  rw [if_neg (by omega), Int.add_zero]
  have h1 := zsum_pad (fun u => if u ≤ q then f u * g (q - u) else 0) n1 (q + 1) fun i hi => by
    show (if i ≤ q then f i * g (q - i) else 0) = 0
    rw [hf i hi, Int.zero_mul, ite_self]
  have h2 := zsum_pad (fun u => if u ≤ q then f u * g (q - u) else 0) (q + 1) n1 fun i hi => if_neg (by omega)
  rw [← h1, Nat.add_comm, h2]
  exact zsum_congr _ fun k hk => if_pos (by omega)
def RetPd (w : World) (t : Nat) (n : Nat) (P : Nat → Int) (e : Ending) (w' : World) : Prop :=
  ∃ b : Nat, e = .returned (.slice (some ⟨b, 0, none⟩) n n) ∧ w.heap.size ≤ b ∧ b < w'.heap.size ∧ w'.rowIs b 2 n (Z.ku .i64 fun q => bal t (P q)) ∧ Below w.heap.size w w'

set_option maxRecDepth 100000 in
set_option maxHeartbeats 40000000 in
theorem rproduct25_any (t n1 c1 n2 c2 : Nat) (A1 A2 : Option Addr) (f g : Nat → Int) (w : World) (ht3 : 3 ≤ t) (htm : t ≤ 2147483647) (hodd : t % 2 = 1) (hf : Z.Sq .i64 w 0 w.heap.size A1 n1 f) (hg : Z.Sq .i64 w 0 w.heap.size A2 n2 g) (h1 : n1 ≤ 10000) (h2 : n2 ≤ 10000)
    (hfb : ∀ j, -2147483648 ≤ f j ∧ f j ≤ 2147483648) (hgb : ∀ j, -2147483648 ≤ g j ∧ g j ≤ 2147483648) :
    Calls Try.prog 47 #[.int .u32 t, .slice A1 n1 c1, .slice A2 n2 c2] w (RetPd w t (n1 + n2) (cnv f g)) := by
  have HF := Lib.hid hf
  have HG := Lib.hid hg
  have HFB := Lib.hid hfb
  have HGB := Lib.hid hgb
  have HN1 : Hid ((n1 : Int) + (n2 : Int) = ((n1 + n2 : Nat) : Int)) := Lib.hid (by omega)
  have htp : ¬ t = 0 := by omega
  clear hf hg hfb hgb
  go_enter Try.func47, Try.ntmps47
  go_wp2_with (at_make; go_loud (refine Z.wpl_make rfl _ _ _ rfl e64s' .i64 .i64 _ _ (n1 + n2) rfl rfl HN1.out HN1.out (by omega) (by unfold maxLen; omega) ?_; intro w4 hr4 hb4 hs4; have HR4 := Lib.hid (hr4.congr (g := Z.ku .i64 fun q => bal t (pdc f g 0 0 q)) fun j _ => by simp only [Z.ku]; rw [pdc_zero]; rfl); clear hr4))
  have HB4 := Lib.hid hb4
  clear hb4
  go_loopw [8] (fun I w' => ∃ i : Nat, I = .int .i64 (i : Int) ∧ i ≤ n1 ∧ w'.rowIs w.heap.size 2 (n1 + n2) (Z.ku .i64 fun q => bal t (pdc f g i 0 q)) ∧ Below w.heap.size w w' ∧ w.heap.size < w'.heap.size) (fun I _ => n1 - (intOf I).toNat)
  case atStart => exact ⟨0, rfl, Nat.zero_le _, HR4.out, HB4.out, hs4⟩
  case round =>
    clear HR4 HB4 hs4
    obtain ⟨i, rfl, hi, hrow, hbl, hzr⟩ := hrel
    have HROW := Lib.hid hrow
    have HBL := Lib.hid hbl
    clear hrow hbl
    by_cases hin : i < n1
    · have e1 : decide ((i : Int) < (n1 : Int)) = true := decide_eq_true (by omega)
      go_wp2
      go_loopw [9] (fun J w' => ∃ j : Nat, J = .int .i64 (j : Int) ∧ j ≤ n2 ∧ w'.rowIs w.heap.size 2 (n1 + n2) (Z.ku .i64 fun q => bal t (pdc f g i j q)) ∧ Below w.heap.size w w' ∧ w.heap.size < w'.heap.size) (fun J _ => n2 - (intOf J).toNat)
      case atStart => exact ⟨0, rfl, Nat.zero_le _, HROW.out, HBL.out, hzr⟩
      case round =>
        clear HROW HBL hzr
        obtain ⟨j, rfl, hj, hrow, hbl, hzr⟩ := hrel
        have HROW := Lib.hid hrow
        have HBL := Lib.hid hbl
        clear hrow hbl
        by_cases hjn : j < n2
        · have e2 : decide ((j : Int) < (n2 : Int)) = true := decide_eq_true (by omega)
          obtain ⟨g1, o1, hA1, _, _, q1⟩ := (HF.out.below HBL.out (Nat.le_refl _)).2 (by omega)
          obtain ⟨g2, o2, hA2, _, _, q2⟩ := (HG.out.below HBL.out (Nat.le_refl _)).2 (by omega)
          have k1 := q1 i hin
          have k2 := q2 j hjn
          have k3 := HROW.out.cell (show i + j < n1 + n2 by omega)
          have f3 := HROW.out.frozen (i + j)
          simp only [Z.ku] at k3
          have b1 := HFB.out i
          have b2 := HGB.out j
          obtain ⟨x, hx⟩ : ∃ x, f i = x := ⟨_, rfl⟩
          obtain ⟨y, hy⟩ : ∃ y, g j = y := ⟨_, rfl⟩
          obtain ⟨u, hu⟩ : ∃ u, bal t (pdc f g i j (i + j)) = u := ⟨_, rfl⟩
          have bu := bal_bound hodd (pdc f g i j (i + j))
          rw [hx] at k1 b1
          rw [hy] at k2 b2
          rw [hu] at k3 bu
          have c1 := mul_b31 b1 b2
          obtain ⟨z, hz⟩ : ∃ z, x * y = z := ⟨_, rfl⟩
          rw [hz] at c1
          obtain ⟨r, hr, d1, d2, _⟩ := tm_fact z (m := t) (by omega)
          have w1 : wrap64 (x * y) = z := by rw [hz]; exact wrap64_eq (by omega) (by omega)
          have w2 : wrap64 (u + r) = u + r := wrap64_eq (by omega) (by omega)
          have HNEW : Hid (bal t (u + r) = bal t (pdc f g i (j + 1) (i + j))) := Lib.hid (bal_congr (by
            rw [pdc_here, ← hu, ← hr, hx, hy, hz]
            exact (bal_cg t _).add (tmod_cg t z)))
          have HBA := Lib.hid (fun W : World => rbal8_any (u + r) t W ht3 htm hodd)
          have i0 : 0 ≤ (i : Int) := by omega
          have i1 : (i : Int) < (n1 : Int) := by omega
          have i2 : 0 ≤ (j : Int) := by omega
          have i3 : (j : Int) < (n2 : Int) := by omega
          have i4 : 0 ≤ (i : Int) + (j : Int) := by omega
          have i5 : (i : Int) + (j : Int) < (n1 : Int) + (n2 : Int) := by omega
          have i6 : ((i : Int) + (j : Int)).toNat = i + j := by omega
          rw [hA1, hA2]
          clear q1 q2 hx hy hu hz hA1 hA2
          go_wp2
          refine wp_region_quiet_tail 27 (by kernel_rfl) (by kernel_rfl) ?_
          simp only [List.take_succ_cons, List.take_zero, List.drop_succ_cons, List.drop_zero]
          repeat (go_big_quiet_step ((exact (HBA.out _).mono fun e w' hh => ⟨hh.1, _, hh.2.symm⟩)))
          refine wpQuiet_nil ?_
          rintro _ ⟨d2, rfl⟩
          go_wp2
          all_goals go_roundw
          case rel =>
            refine ⟨j + 1, by go_num, hjn, (Z.rowIs_set_ku (w := wr.drewN d2) HROW.out (i + j) _).congr fun q _ => ?_, (below_drewN HBL.out d2).setCell (p := ⟨w.heap.size, i + j, none⟩) (Nat.le_refl _) _, by simpa using hzr⟩
            simp only [Z.ku]
            congr 1
            by_cases hq : q = i + j
            · rw [if_pos hq, hq, HNEW.out]
            · rw [if_neg hq, pdc_other _ _ _ _ _ hq]
          case measure => simp only [intOf]; omega
        · obtain rfl : n2 = j := by omega
          have e2 : decide ((n2 : Int) < (n2 : Int)) = false := decide_eq_false (by omega)
          go_wp2
          go_roundw
          case rel => exact ⟨i + 1, by go_num, hin, HROW.out.congr fun q _ => by simp only [Z.ku]; rw [pdc_row HG.out.1], HBL.out, hzr⟩
          case measure => simp only [intOf]; omega
    · obtain rfl : n1 = i := by omega
      have e1 : decide ((n1 : Int) < (n1 : Int)) = false := decide_eq_false (by omega)
      go_wp2
      go_ret
      exact ⟨w.heap.size, rfl, Nat.le_refl _, hzr, HROW.out.congr fun q _ => by simp only [Z.ku]; rw [pdc_all HF.out.1], HBL.out⟩
end Go.Proofs.Ytmidpholmgmdpaa
