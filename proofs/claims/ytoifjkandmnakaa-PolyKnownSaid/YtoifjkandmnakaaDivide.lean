/- The contract of poly.divide. -/
import Derived.Test.YtoifjkandmnakaaUnit
namespace Go.Proofs.Ytoifjkandmnakaa
open Go.RowKit

theorem Own.set {k : IntKind} {w : World} {base e n c g : Nat} {f : Nat → Nat} (h : Own k w base e (some ⟨g, 0, none⟩) n c f) {j : Nat} (hj : j < n) (x : Nat) :
    Own k (w.setCell ⟨g, j, none⟩ (.int k (x : Int))) base e (some ⟨g, 0, none⟩) n c (fun i => if i = j then x else f i) := by
  have hx : ∀ i, n ≤ i → (if i = j then x else f i) = 0 := fun i hi => by rw [if_neg (by omega)]; exact h.1 i hi
  rcases h.2.2 with ⟨hv, _⟩ | ⟨g', cap, cur, hv, hb, hh, hnc, hm, hs, ht⟩
  · cases hv
  · injection hv with h1 h2 h3
    injection h1 with h1
    injection h1 with h1
    subst h1 h3
    refine ⟨hx, by simp, .inr ⟨g, c, cur.setIfInBounds j (.int k (x : Int)), rfl, hb, ?_, hnc, hm, by simpa using hs, ?_⟩⟩
    · simp [World.setCell, Array.getElem?_modify, hh]
    · apply List.ext_getElem?
      intro i
      by_cases hi : i < n
      · have e1 : cur.toList[i]? = (cur.toList.take (n * 1))[i]? := by rw [List.getElem?_take_of_lt (by omega)]
        rw [List.getElem?_take_of_lt (by omega), Array.getElem?_toList, Array.getElem?_setIfInBounds, List.getElem?_map, List.getElem?_range hi]
        by_cases hij : i = j
        · subst hij
          simp [ku]
          omega
        · rw [if_neg (fun h => hij h.symm), ← Array.getElem?_toList, e1, ht]
          simp [hi, ku, hij]
      · rw [List.getElem?_eq_none (by simp; omega), List.getElem?_eq_none (by simp; omega)]

/-- two new lists -/
def RetSl2 (w : World) (n1 : Nat) (F1 : Nat → Nat) (n2 : Nat) (F2 : Nat → Nat) (e : Ending) (w' : World) : Prop :=
  ∃ A1 c1 A2 c2, e = .returned (.tuple #[.slice A1 n1 c1, .slice A2 n2 c2]) ∧ n1 ≤ c1 ∧ n2 ≤ c2 ∧ Sq .u32 w' w.heap.size w'.heap.size A1 n1 F1 ∧ Sq .u32 w' w.heap.size w'.heap.size A2 n2 F2 ∧ Below w.heap.size w w'

/-- how many steps a division takes -/
def dL (n nb : Nat) : Nat := n + 1 - nb

theorem dC_val {m x iv c : Nat} (_hm : 0 < m) (hc : c = x * iv % m) : ((x : Int) * (iv : Int)) % (m : Int) = (c : Int) := by subst hc; simp

/-- what holds at the head of the outer loop -/
def DivOut (m nb iv n q : Nat) (a b : Nat → Nat) (w : World) (g c : Nat) (i : Value) (wr : World) : Prop :=
  ∃ (t : Nat) (R : Nat → Nat), t ≤ dL n nb ∧ i = .int .i64 ((t : Int) - 1) ∧ Own .u32 wr w.heap.size 22 (some ⟨g, 0, none⟩) n c R ∧ wr.rowIs q 22 (dL n nb) (ku .u32 fun j => if t ≤ j then dQ m nb b iv (dL n nb) a j else 0) ∧
    dR m nb b iv t R = dR m nb b iv (dL n nb) a ∧ (∀ j, j < t → dQ m nb b iv t R j = dQ m nb b iv (dL n nb) a j) ∧ (∀ j, R j < m) ∧ Below w.heap.size w wr ∧ q < wr.heap.size

/-- what holds at the head of the inner loop -/
def DivIn (m nb iv n q : Nat) (a b : Nat → Nat) (w : World) (g c s : Nat) (R : Nat → Nat) (i : Value) (wr : World) : Prop :=
  ∃ k : Nat, k ≤ nb ∧ i = .int .i64 k ∧ Own .u32 wr w.heap.size 22 (some ⟨g, 0, none⟩) n c (fun j => if s ≤ j ∧ j < s + k then dStep m nb b iv s R j else R j) ∧
    wr.rowIs q 22 (dL n nb) (ku .u32 fun j => if s ≤ j then dQ m nb b iv (dL n nb) a j else 0) ∧ Below w.heap.size w wr ∧ q < wr.heap.size

theorem sub_mul_lt {m c y : Nat} (hc : c < m) (hy : y < m) (hm : m ≤ 2147483647) : 0 ≤ ((m : Int) - (c : Int)) * (y : Int) ∧ ((m : Int) - (c : Int)) * (y : Int) ≤ 4611686014132420609 := by
  refine ⟨Int.mul_nonneg (by omega) (by omega), ?_⟩
  have h1 := Int.mul_le_mul (show ((m : Int) - (c : Int)) ≤ 2147483647 by omega) (show (y : Int) ≤ 2147483647 by omega) (by omega) (by omega)
  omega

set_option maxHeartbeats 2000000 in
theorem divide_long (m iv n nb ca cb : Nat) (A B : Option Addr) (a b : Nat → Nat) (w : World) (lo hi : Nat) (ha : Sq .u32 w lo hi A n a) (hb : Sq .u32 w lo hi B nb b)
    (hm : 0 < m) (hm2 : m ≤ 2147483647) (hiv : iv < m) (haa : ∀ j, a j < m) (hbb : ∀ j, b j < m) (hn : n ≤ 2000) (hnb : nb ≤ 2000) (hhi : hi ≤ w.heap.size) (hnb0 : 0 < nb) (hle : nb ≤ n) :
    Calls Try.prog 46 #[.int .u32 m, .slice A n ca, .slice B nb cb, .int .u32 iv] w (RetSl2 w (tl (dQ m nb b iv (dL n nb) a) (dL n nb)) (dQ m nb b iv (dL n nb) a) (tl (dR m nb b iv (dL n nb) a) n) (dR m nb b iv (dL n nb) a)) := by
  have hL : dL n nb = n - nb + 1 := by unfold dL; omega
  have hL1 : (n : Int) - (nb : Int) + 1 = ((dL n nb : Nat) : Int) := by omega
  have hL2 : dL n nb ≤ 2000 := by omega
  have hL3 : n + 1 ≤ dL n nb + nb := by omega
  have hL4 : dL n nb + nb ≤ n + 1 := by omega
  have hL5 : 1 ≤ dL n nb := by omega
  have HL1 := Lib.hid hL1
  have hge : decide ((n : Int) - (nb : Int) ≥ 0) = true := decide_eq_true (by omega)
  clear hL hL1
  go_enter Try.func46, Try.ntmps46
  go_wp2_with (first
    | (at_builtin; refine wpl_append rfl _ _ _ rfl e32 rfl (Own.nil _ _ w.heap.size _) rfl ha a (fun j h => absurd h (Nat.not_lt_zero j)) (fun j => by rw [Nat.zero_add]) (by unfold maxLen; omega) (by omega) (Nat.le_refl _) ?_; intro A1 c1 w1 hown1 hg1 hb1 hat1; rw [Nat.zero_add] at hown1)
    | (at_make; refine wpl_make rfl _ _ _ rfl e32 .i64 .i64 _ _ (dL n nb) rfl rfl HL1.out HL1.out (by omega) (by unfold maxLen; omega) ?_; intro w2 hr2 hb2 hs2))
  obtain rfl : A1 = some ⟨w.heap.size, 0, none⟩ := by
    rcases hat1 with h | h
    · rcases hown1.cases with ⟨_, h0, _⟩ | ⟨g, h1, _⟩
      · omega
      · rw [h] at h1; cases h1
    · exact h
  have hlt1 := own_lt hown1
  have HOb := Lib.hid (fun j (hj : nb ≤ j) => hb.1 j hj)
  go_loopw [11] (DivOut m nb iv n w1.heap.size a b w w.heap.size c1) (fun i _ => (intOf i + 1).toNat)
  case atStart =>
    refine ⟨dL n nb, a, Nat.le_refl _, rfl, hown1.below hb2 (Nat.le_refl _), hr2.congr fun j hj => ?_, rfl, fun j _ => rfl, haa, hb1.trans (hb2.mono hb1.size), hs2⟩
    simp only [ku]
    rw [if_neg (by omega)]
  case round =>
    clear hown1 hr2 hb1 hb2 hs2 hg1 hat1
    obtain ⟨t, R, ht, rfl, hown, hrow, hdR, hdQ, hRm, hbel, hqs⟩ := hrel
    by_cases ht0 : 0 < t
    · obtain ⟨s, rfl⟩ : ∃ s, t = s + 1 := ⟨t - 1, by omega⟩
      have hs1 : (((s + 1 : Nat) : Int) - 1) = (s : Int) := by omega
      rw [hs1]
      clear hs1
      -- the leading element
      obtain ⟨_, _, hoc, hof⟩ : 0 < n ∧ w.heap.size < wr.heap.size ∧ (∀ j, j < n → wr.cell? ⟨w.heap.size, j, none⟩ = some (ku .u32 R j)) ∧ (∀ j, wr.frozen? ⟨w.heap.size, j, none⟩ = false) := by
        rcases hown.cases with ⟨h, _⟩ | ⟨g, h, _, h1, _, _, h2, h3⟩
        · cases h
        · injection h with h
          injection h with h
          subst h
          exact ⟨by omega, h1, h2, h3⟩
      have hc1 := hoc (s + nb - 1) (by omega)
      simp only [ku] at hc1
      have hxm := hRm (s + nb - 1)
      have hcd : dC m nb iv s R = R (s + nb - 1) * iv % m := rfl
      have hcm : dC m nb iv s R < m := Nat.mod_lt _ hm
      have hqv : dQ m nb b iv (s + 1) R s = dC m nb iv s R := by simp only [dQ, if_true]
      have hqs2 := hdQ s (by omega)
      rw [hqv] at hqs2
      obtain ⟨c, hc⟩ : ∃ c, dC m nb iv s R = c := ⟨_, rfl⟩
      obtain ⟨x, hx⟩ : ∃ x, R (s + nb - 1) = x := ⟨_, rfl⟩
      rw [hx] at hc1 hxm hcd
      rw [hc] at hcm hcd hqs2
      have e1 := dC_val hm hcd
      have hxi2 := mul_lt_int hxm hiv hm2
      have hxi3 : 0 ≤ (x : Int) * (iv : Int) := Int.mul_nonneg (Int.natCast_nonneg _) (Int.natCast_nonneg _)
      have HC := Lib.hid hc
      have HQ := Lib.hid hqs2
      have HDR := Lib.hid hdR
      have HDQ := Lib.hid hdQ
      have HRM := Lib.hid hRm
      have HOW := Lib.hid hown
      have HROW := Lib.hid hrow
      have hq1 := hrow.cell (show s < dL n nb by omega)
      simp only [ku] at hq1
      rw [if_neg (show ¬ s + 1 ≤ s by omega)] at hq1
      have hq2 := hrow.frozen s
      have hidx : ((s : Int) + (nb : Int) - 1).toNat = s + nb - 1 := by omega
      clear hx hc hqv hqs2 hcd hdR hdQ hRm hown hrow hoc hof
      go_wp2
      rw [e1]
      clear e1 hxi2 hxi3 hidx hq2 hc1
      have hrowS : (wr.setCell ⟨w1.heap.size, s, none⟩ (.int .u32 (c : Nat))).rowIs w1.heap.size 22 (dL n nb) (ku .u32 fun j => if s ≤ j then dQ m nb b iv (dL n nb) a j else 0) := by
        refine (rowIs_set_ku HROW.out s c).congr fun j _ => ?_
        simp only [ku]
        congr 2
        by_cases h1 : j = s
        · subst h1
          rw [if_pos rfl, if_pos (Nat.le_refl _), HQ.out]
        · rw [if_neg h1]
          by_cases h2 : s + 1 ≤ j
          · rw [if_pos h2, if_pos (by omega)]
          · rw [if_neg h2, if_neg (by omega)]
      have hownS : Own .u32 (wr.setCell ⟨w1.heap.size, s, none⟩ (.int .u32 (c : Nat))) w.heap.size 22 (some ⟨w.heap.size, 0, none⟩) n c1 R :=
        HOW.out.of_block fun g _ _ hg => by
          injection hg with hg
          injection hg with hg
          exact Below.heap_setCell wr _ _ g (by show g ≠ w1.heap.size; omega)
      have hbelS : Below w.heap.size w (wr.setCell ⟨w1.heap.size, s, none⟩ (.int .u32 (c : Nat))) := hbel.setCell (by show w.heap.size ≤ w1.heap.size; omega) _
      have hqsS : w1.heap.size < (wr.setCell ⟨w1.heap.size, s, none⟩ (.int .u32 (c : Nat))).heap.size := by simpa using hqs
      have HS := Lib.hid (And.intro hrowS (And.intro hownS (And.intro hbelS hqsS)))
      clear hrowS hownS hbelS hqsS hq1 HROW HOW hbel hqs
      go_loopw [57] (DivIn m nb iv n w1.heap.size a b w w.heap.size c1 s R) (fun i _ => nb - (intOf i).toNat)
      case atStart =>
        refine ⟨0, Nat.zero_le _, rfl, HS.out.2.1.congr fun j => ?_, HS.out.1, HS.out.2.2.1, HS.out.2.2.2⟩
        rw [if_neg (by omega)]
      case round =>
        clear HS
        obtain ⟨k, hk, rfl, hown, hrow, hbel, hqs⟩ := hrel
        by_cases hkn : k < nb
        · obtain ⟨g2, off2, rfl, _, hg2, hcell2⟩ := hb.2 (by omega)
          have hc1 := (hbel.cell (p := ⟨g2, off2 + k, none⟩) (show g2 < w.heap.size by omega)).trans (hcell2 k hkn)
          obtain ⟨y, hy⟩ : ∃ y, b k = y := ⟨_, rfl⟩
          have hym := hbb k
          rw [hy] at hc1 hym
          obtain ⟨hoc, hof⟩ : (∀ j, j < n → wr.cell? ⟨w.heap.size, j, none⟩ = some (ku .u32 (fun j => if s ≤ j ∧ j < s + k then dStep m nb b iv s R j else R j) j)) ∧ (∀ j, wr.frozen? ⟨w.heap.size, j, none⟩ = false) := by
            rcases hown.cases with ⟨h, _⟩ | ⟨g, h, _, h1, _, _, h2, h3⟩
            · cases h
            · injection h with h
              injection h with h
              subst h
              exact ⟨h2, h3⟩
          have hc2 := hoc (s + k) (by omega)
          simp only [ku] at hc2
          rw [if_neg (show ¬(s ≤ s + k ∧ s + k < s + k) by omega)] at hc2
          have hf2 := hof (s + k)
          obtain ⟨z, hz⟩ : ∃ z, R (s + k) = z := ⟨_, rfl⟩
          have hzm := HRM.out (s + k)
          rw [hz] at hc2 hzm
          obtain ⟨p1, p2⟩ := sub_mul_lt hcm hym hm2
          have hd1 : 0 ≤ ((z : Int) + ((m : Int) - (c : Int)) * (y : Int)) % (m : Int) := Int.emod_nonneg _ (by omega)
          have hd2 : ((z : Int) + ((m : Int) - (c : Int)) * (y : Int)) % (m : Int) < (m : Int) := Int.emod_lt_of_pos _ (by omega)
          have hskn : s + k < n := by omega
          have hV : ((z : Int) + ((m : Int) - (c : Int)) * (y : Int)) % (m : Int) = ((dStep m nb b iv s R (s + k) : Nat) : Int) := by
            unfold dStep
            rw [if_pos (Nat.le_add_right s k), Nat.add_sub_cancel_left, HC.out, hz, hy, Int.natCast_emod, Int.natCast_add, Int.natCast_mul, Int.ofNat_sub (Nat.le_of_lt hcm)]
          have HV := Lib.hid hV
          have HO := Lib.hid hown
          have HR := Lib.hid hrow
          have HB2 := Lib.hid hb
          clear hy hz hcell2 hoc hof hV hown hrow hb
          go_wp2
          go_roundw
          case rel =>
            rw [HV.out]
            refine ⟨k + 1, by omega, by go_num, (HO.out.set (show s + k < n by omega) _).congr fun j => ?_, HR.out.setOther (by show w1.heap.size ≠ w.heap.size; omega) _, hbel.setCell (Nat.le_refl _) _, by simpa using hqs⟩
            by_cases h1 : j = s + k
            · subst h1
              rw [if_pos rfl, if_pos (by omega)]
            · rw [if_neg h1]
              by_cases h2 : s ≤ j ∧ j < s + k
              · rw [if_pos h2, if_pos (by omega)]
              · rw [if_neg h2, if_neg (by omega)]
          case measure => simp [intOf]; omega
        · have hown2 : Own .u32 wr w.heap.size 22 (some ⟨w.heap.size, 0, none⟩) n c1 (dStep m nb b iv s R) := hown.congr fun j => by
            split
            · rfl
            · rcases Nat.lt_or_ge j s with h | h
              · unfold dStep
                rw [if_neg (by omega)]
              · exact (dStep_out HOb.out HRM.out (by omega)).symm
          have HO := Lib.hid hown2
          have HR := Lib.hid hrow
          clear hown hown2 hrow hb
          go_wp2
          go_roundw
          case rel =>
            refine ⟨s, dStep m nb b iv s R, by omega, rfl, HO.out, HR.out, HDR.out, fun j hj => ?_, dStep_lt hm HRM.out, hbel, hqs⟩
            rw [← HDQ.out j (by omega)]
            simp only [dQ]
            rw [if_neg (by omega)]
          case measure => simp [intOf]
    · obtain rfl : t = 0 := by omega
      have hr : R = dR m nb b iv (dL n nb) a := hdR
      subst hr
      have hsq1 : Sq .u32 wr w.heap.size wr.heap.size (some ⟨w1.heap.size, 0, none⟩) (dL n nb) (dQ m nb b iv (dL n nb) a) :=
        Sq.of_row hrow (Nat.le_refl _) (Nat.le_of_lt hlt1) hqs (fun j hj => dQ_out _ _ j hj) fun j _ => if_pos (Nat.zero_le j)
      have hsq2 := hown.sq (Nat.le_refl w.heap.size)
      have hle1 := hown.le
      have H1 := Lib.hid (trim_any (some ⟨w1.heap.size, 0, none⟩) (dL n nb) (dL n nb) _ wr _ _ hsq1 (Nat.le_refl _) (by omega))
      have H2 := Lib.hid (trim_any (some ⟨w.heap.size, 0, none⟩) n c1 _ wr _ _ hsq2 hle1 (by omega))
      have HS := Lib.hid (And.intro hsq1 hsq2)
      clear hsq1 hsq2 hown hrow hdR hdQ hRm hb ha haa hbb
      go_wp2_with fail
      refine H1.out.mono ?_
      rintro e w' ⟨rfl, rfl⟩
      go_wp2_with fail
      refine H2.out.mono ?_
      rintro e w' ⟨rfl, rfl⟩
      go_wp2
      go_ret2
      have t1 := tl_le (dQ m nb b iv (dL n nb) a) (dL n nb)
      have t2 := tl_le (dR m nb b iv (dL n nb) a) n
      exact ⟨_, _, _, _, rfl, t1, by omega, sq_tl HS.out.1, sq_tl HS.out.2, hbel⟩

set_option maxHeartbeats 1000000 in
theorem divide_short (m iv n nb ca cb : Nat) (A B : Option Addr) (a : Nat → Nat) (w : World) (lo hi : Nat) (ha : Sq .u32 w lo hi A n a)
    (hn : n ≤ 2000) (hnb : nb ≤ 2000) (hlt : n < nb) :
    Calls Try.prog 46 #[.int .u32 m, .slice A n ca, .slice B nb cb, .int .u32 iv] w (RetSl2 w 0 (fun _ => 0) (tl a n) a) := by
  have hge : decide ((n : Int) - (nb : Int) ≥ 0) = false := decide_eq_false (by omega)
  go_enter Try.func46, Try.ntmps46
  go_wp2_with (at_builtin; refine wpl_append rfl _ _ _ rfl e32 rfl (Own.nil _ _ w.heap.size _) rfl ha a (fun j h => absurd h (Nat.not_lt_zero j)) (fun j => by rw [Nat.zero_add]) (by unfold maxLen; omega) (by omega) (Nat.le_refl _) ?_; intro A1 c1 w1 hown1 hg1 hb1 hat1; rw [Nat.zero_add] at hown1)
  refine wp_loop_rounds 1 ?_
  rw [rounds_succ]
  have H1 := Lib.hid (trim_any none 0 0 (fun _ => 0) w1 0 0 (Sq.nil _ _ _ _ _) (Nat.le_refl _) (by omega))
  have H2 := Lib.hid (trim_any A1 n c1 a w1 _ _ (hown1.sq (Nat.le_refl _)) hown1.le (by omega))
  have HO := Lib.hid hown1
  clear hown1 hat1 hg1
  go_wp2_with fail
  refine H1.out.mono ?_
  rintro e w' ⟨rfl, rfl⟩
  go_wp2_with fail
  refine H2.out.mono ?_
  rintro e w' ⟨rfl, rfl⟩
  go_wp2
  go_ret2
  have t2 := tl_le a n
  have hle := HO.out.le
  exact ⟨_, _, _, _, rfl, Nat.le_refl _, by omega, Sq.nil _ _ _ _ _, sq_tl (HO.out.sq (Nat.le_refl _)), hb1⟩

theorem divide_any (m iv n nb ca cb : Nat) (A B : Option Addr) (a b : Nat → Nat) (w : World) (lo hi : Nat) (ha : Sq .u32 w lo hi A n a) (hb : Sq .u32 w lo hi B nb b)
    (hm : 0 < m) (hm2 : m ≤ 2147483647) (hiv : iv < m) (haa : ∀ j, a j < m) (hbb : ∀ j, b j < m) (hn : n ≤ 2000) (hnb : nb ≤ 2000) (hhi : hi ≤ w.heap.size) (hnb0 : 0 < nb) :
    Calls Try.prog 46 #[.int .u32 m, .slice A n ca, .slice B nb cb, .int .u32 iv] w (RetSl2 w (tl (dQ m nb b iv (dL n nb) a) (dL n nb)) (dQ m nb b iv (dL n nb) a) (tl (dR m nb b iv (dL n nb) a) n) (dR m nb b iv (dL n nb) a)) := by
  rcases Nat.lt_or_ge n nb with h | h
  · have e : dL n nb = 0 := by unfold dL; omega
    rw [e]
    exact divide_short m iv n nb ca cb A B a w lo hi ha hn hnb h
  · exact divide_long m iv n nb ca cb A B a b w lo hi ha hb hm hm2 hiv haa hbb hn hnb hhi hnb0 h
end Go.Proofs.Ytoifjkandmnakaa
