/- The contracts of small functions of the law of layer 8: the comparison of lists; lent, kept. -/
/- The contracts of Power, the program's and the reference's. -/
import Derived.Test.YtcnkddoipmaddaaDec8
import Derived.Test.YtcnkddoipmaddaaRDec8
namespace Go.Proofs.Ytcnkddoipmaddaa
open Go.RowKit
set_option linter.unusedVariables false

def SameP (n : Nat) (a : Nat → Int) (nb : Nat) (b : Nat → Int) : Prop := n = nb ∧ ∀ j, j < n → a j = b j
def RetBB (w : World) (P : Prop) (e : Ending) (w' : World) : Prop := Below w.heap.size w w' ∧ ((P ∧ e = .returned (.bool true)) ∨ (¬ P ∧ e = .returned (.bool false)))
theorem RetBB.yes {w w' : World} {P : Prop} {e : Ending} (h : RetBB w P e w') (hp : P) : RetV w (.bool true) e w' := by
  rcases h.2 with ⟨_, h1⟩ | ⟨h1, _⟩
  · exact ⟨h1, h.1⟩
  · exact absurd hp h1
set_option maxHeartbeats 400000 in
theorem same80_any (n nb ca cb : Nat) (A B : Option Addr) (a b : Nat → Int) (w : World) (lo hi lo2 hi2 : Nat) (ha : Z.Sq .i64 w lo hi A n a) (hb : Z.Sq .i64 w lo2 hi2 B nb b) (hn : n ≤ 1000000) (hnb : nb ≤ 1000000) (hhi : hi ≤ w.heap.size) (hhi2 : hi2 ≤ w.heap.size) :
    Calls Try.prog 39 #[.slice A n ca, .slice B nb cb] w (RetBB w (SameP n a nb b)) := by
  by_cases hl : n = nb
  · subst hl
    have HA := Lib.hid ha
    have HB := Lib.hid hb
    clear ha hb
    go_enter Try.func39, Try.ntmps39
    go_wp2
    go_loopw [5] (fun i wr => ∃ k : Nat, k ≤ n ∧ i = .int .i64 k ∧ (∀ j, j < k → a j = b j) ∧ Below w.heap.size w wr) (fun i _ => n - (intOf i).toNat)
    case atStart => exact ⟨0, Nat.zero_le _, rfl, fun j hj => absurd hj (Nat.not_lt_zero j), Below.refl _ _⟩
    case round =>
      obtain ⟨k, hk, rfl, heq, hbel⟩ := hrel
      have HE := Lib.hid heq
      clear heq
      by_cases hkn : k < n
      · have d1 : decide ((k : Int) < (n : Int)) = true := decide_eq_true (by omega)
        obtain ⟨g, off, hA, _, hg1, hcell⟩ := HA.out.2 (by omega)
        obtain ⟨g2, off2, hB, _, hg2, hcell2⟩ := HB.out.2 (by omega)
        have hc1 := (hbel.cell (p := ⟨g, off + k, none⟩) (by show g < _; omega)).trans (hcell k hkn)
        have hc2 := (hbel.cell (p := ⟨g2, off2 + k, none⟩) (by show g2 < _; omega)).trans (hcell2 k hkn)
        obtain ⟨x, hx⟩ : ∃ x, a k = x := ⟨_, rfl⟩
        obtain ⟨y, hy⟩ : ∃ y, b k = y := ⟨_, rfl⟩
        rw [hx] at hc1
        rw [hy] at hc2
        rw [hA, hB]
        have HX := Lib.hid hx
        have HY := Lib.hid hy
        have hk0 : 0 ≤ (k : Int) := by omega
        have hk1 : (k : Int) < (n : Int) := by omega
        clear hx hy hcell hcell2 hA hB
        by_cases hxy : x = y
        · have e1 : (x != y) = false := by simp [hxy]
          have HXY := Lib.hid hxy
          clear hxy
          go_wp2
          go_quiet (fail)
          go_wp2
          go_roundw
          case rel =>
            refine ⟨k + 1, by omega, by go_num, fun j hj => ?_, below_drewN hbel _⟩
            rcases Nat.lt_or_ge j k with h | h
            · exact HE.out j h
            · rw [show j = k from by omega, HX.out, HY.out, HXY.out]
          case measure => simp only [intOf]; omega
        · have e1 : (x != y) = true := by simp [hxy]
          have HXY := Lib.hid hxy
          clear hxy
          go_wp2
          go_quiet (fail)
          go_wp2
          go_ret
          exact ⟨below_drewN hbel _, .inr ⟨fun h => HXY.out (by rw [← HX.out, ← HY.out]; exact h.2 k hkn), rfl⟩⟩
      · have d1 : decide ((k : Int) < (n : Int)) = false := decide_eq_false (by omega)
        go_wp2
        go_ret
        exact ⟨hbel, .inl ⟨⟨rfl, fun j hj => HE.out j (by omega)⟩, rfl⟩⟩
  · have h1 : ((n : Int) != (nb : Int)) = true := by
      simp only [bne_iff_ne, ne_eq]
      omega
    clear ha hb
    go_enter Try.func39, Try.ntmps39
    go_wp2
    go_ret
    exact ⟨Below.refl _ _, .inr ⟨fun h => hl h.1, rfl⟩⟩

set_option maxHeartbeats 400000 in
theorem sameInts8_any (n nb ca cb : Nat) (A B : Option Addr) (a b : Nat → Int) (w : World) (lo hi lo2 hi2 : Nat) (ha : Z.Sq .i64 w lo hi A n a) (hb : Z.Sq .i64 w lo2 hi2 B nb b) (hn : n ≤ 1000000) (hnb : nb ≤ 1000000) (hhi : hi ≤ w.heap.size) (hhi2 : hi2 ≤ w.heap.size) :
    Calls Try.prog 27 #[.slice A n ca, .slice B nb cb] w (RetBB w (SameP n a nb b)) := by
  by_cases hl : n = nb
  · subst hl
    have HA := Lib.hid ha
    have HB := Lib.hid hb
    clear ha hb
    go_enter Try.func27, Try.ntmps27
    go_wp2
    go_loopw [5] (fun i wr => ∃ k : Nat, k ≤ n ∧ i = .int .i64 k ∧ (∀ j, j < k → a j = b j) ∧ Below w.heap.size w wr) (fun i _ => n - (intOf i).toNat)
    case atStart => exact ⟨0, Nat.zero_le _, rfl, fun j hj => absurd hj (Nat.not_lt_zero j), Below.refl _ _⟩
    case round =>
      obtain ⟨k, hk, rfl, heq, hbel⟩ := hrel
      have HE := Lib.hid heq
      clear heq
      by_cases hkn : k < n
      · have d1 : decide ((k : Int) < (n : Int)) = true := decide_eq_true (by omega)
        obtain ⟨g, off, hA, _, hg1, hcell⟩ := HA.out.2 (by omega)
        obtain ⟨g2, off2, hB, _, hg2, hcell2⟩ := HB.out.2 (by omega)
        have hc1 := (hbel.cell (p := ⟨g, off + k, none⟩) (by show g < _; omega)).trans (hcell k hkn)
        have hc2 := (hbel.cell (p := ⟨g2, off2 + k, none⟩) (by show g2 < _; omega)).trans (hcell2 k hkn)
        obtain ⟨x, hx⟩ : ∃ x, a k = x := ⟨_, rfl⟩
        obtain ⟨y, hy⟩ : ∃ y, b k = y := ⟨_, rfl⟩
        rw [hx] at hc1
        rw [hy] at hc2
        rw [hA, hB]
        have HX := Lib.hid hx
        have HY := Lib.hid hy
        have hk0 : 0 ≤ (k : Int) := by omega
        have hk1 : (k : Int) < (n : Int) := by omega
        clear hx hy hcell hcell2 hA hB
        by_cases hxy : x = y
        · have e1 : (x != y) = false := by simp [hxy]
          have HXY := Lib.hid hxy
          clear hxy
          go_wp2
          go_quiet (fail)
          go_wp2
          go_roundw
          case rel =>
            refine ⟨k + 1, by omega, by go_num, fun j hj => ?_, below_drewN hbel _⟩
            rcases Nat.lt_or_ge j k with h | h
            · exact HE.out j h
            · rw [show j = k from by omega, HX.out, HY.out, HXY.out]
          case measure => simp only [intOf]; omega
        · have e1 : (x != y) = true := by simp [hxy]
          have HXY := Lib.hid hxy
          clear hxy
          go_wp2
          go_quiet (fail)
          go_wp2
          go_ret
          exact ⟨below_drewN hbel _, .inr ⟨fun h => HXY.out (by rw [← HX.out, ← HY.out]; exact h.2 k hkn), rfl⟩⟩
      · have d1 : decide ((k : Int) < (n : Int)) = false := decide_eq_false (by omega)
        go_wp2
        go_ret
        exact ⟨hbel, .inl ⟨⟨rfl, fun j hj => HE.out j (by omega)⟩, rfl⟩⟩
  · have h1 : ((n : Int) != (nb : Int)) = true := by
      simp only [bne_iff_ne, ne_eq]
      omega
    clear ha hb
    go_enter Try.func27, Try.ntmps27
    go_wp2
    go_ret
    exact ⟨Below.refl _ _, .inr ⟨fun h => hl h.1, rfl⟩⟩

set_option maxHeartbeats 400000 in
theorem same8_any (n nb ca cb : Nat) (A B : Option Addr) (a b : Nat → Int) (w : World) (lo hi lo2 hi2 : Nat) (ha : Z.Sq .i64 w lo hi A n a) (hb : Z.Sq .i64 w lo2 hi2 B nb b) (hn : n ≤ 1000000) (hnb : nb ≤ 1000000) (hhi : hi ≤ w.heap.size) (hhi2 : hi2 ≤ w.heap.size) :
    Calls Try.prog 20 #[.slice A n ca, .slice B nb cb] w (RetBB w (SameP n a nb b)) := by
  have HS := Lib.hid (same80_any n nb ca cb A B a b _ _ _ _ _ ha hb hn hnb hhi hhi2)
  clear ha hb
  go_enter Try.func20, Try.ntmps20
  go_wp2_with fail
  refine HS.out.mono ?_
  rintro e w' ⟨hbel, hh⟩
  rcases hh with ⟨hp, rfl⟩ | ⟨hp, rfl⟩
  · have HP := Lib.hid hp
    clear hp
    go_wp2_with fail
    go_ret
    exact ⟨hbel, .inl ⟨HP.out, rfl⟩⟩
  · have HP := Lib.hid hp
    clear hp
    go_wp2_with fail
    go_ret
    exact ⟨hbel, .inr ⟨HP.out, rfl⟩⟩
/-- what lent leaves: the elements, behind them the mark -/
def lentZ (n : Nat) (f : Nat → Int) : Nat → Int := fun j => if j < n then f j else if j = n then -9223372036854775808 else 0
theorem lentZ_lt {n j : Nat} {f : Nat → Int} (h : j < n) : lentZ n f j = f j := if_pos h
theorem lentZ_add {n : Nat} {f : Nat → Int} (j : Nat) : lentZ n f (n + j) = Z.oneF (-9223372036854775808) j := by
  unfold lentZ Z.oneF
  rw [if_neg (by omega)]
  by_cases h : j = 0
  · rw [if_pos (by omega), if_pos h]
  · rw [if_neg (by omega), if_neg h]
def RetLentZ (w : World) (n : Nat) (f : Nat → Int) (e : Ending) (w' : World) : Prop :=
  e = .returned (.slice (some ⟨w.heap.size, 0, none⟩) n (n + 1)) ∧ w'.rowIs w.heap.size 2 (n + 1) (Z.ku .i64 (lentZ n f)) ∧ Below w.heap.size w w' ∧ w.heap.size < w'.heap.size

set_option maxHeartbeats 400000 in
theorem lent8_any (A : Option Addr) (n c : Nat) (f : Nat → Int) (w : World) (lo hi : Nat) (h : Z.Sq .i64 w lo hi A n f) (hn : n ≤ 1000000) (hhi : hi ≤ w.heap.size) :
    Calls Try.prog 14 #[.slice A n c] w (RetLentZ w n f) := by
  have hn1 : ((n : Int) + 1) = ((n + 1 : Nat) : Int) := by omega
  have HN := Lib.hid hn1
  clear hn1
  go_enter Try.func14, Try.ntmps14
  go_wp2_with (first
    | (at_make; refine Z.wpl_make0 rfl _ _ _ rfl e64s .i64 .i64 _ (n + 1) rfl rfl HN.out (by omega) (by unfold maxLen; omega) ?_; intro w1 hown1 hb1; have hs1 : w.heap.size < w1.heap.size := Z.own_lt hown1)
    | (at_builtin; refine Z.wpl_append_fits rfl (.tmp 7) (.tmp 8) _ rfl e64s rfl hown1 rfl (h.below hb1 hhi) f (fun j h => absurd h (Nat.not_lt_zero j)) (fun j => by rw [Nat.zero_add]) (by omega) ?_; intro w2 hown2 hg2; rw [Nat.zero_add] at hown2)
    | (at_builtin; refine Z.wpl_append_fits rfl (.tmp 10) (.tmp 11) _ rfl e64s rfl (hown2.alloc _) rfl (Z.sq_one (x := -9223372036854775808) (lo := w.heap.size) (hi := w2.heap.size + 1) rfl (Nat.le_trans hb1.size hg2.size) (Nat.lt_succ_self _)) (lentZ n f) (fun j hj => lentZ_lt hj) lentZ_add (by omega) ?_; intro w3 hown3 hg3))
  go_ret
  have hb2 := hb1.grown hg2 (Nat.le_of_lt hs1) (fun g hg => by injection hg with hg; omega)
  have hb3 := (hb2.alloc hb2.size (.cells #[.int .i64 (-9223372036854775808)] 2)).grown hg3 (by have := hb2.size; simp; omega) (fun g hg => by injection hg with hg; omega)
  exact ⟨rfl, hown3.row, hb3, by have := hg2.size; have := hg3.size; simp at this; omega⟩

set_option maxHeartbeats 400000 in
theorem kept8_any (b n c : Nat) (A : Option Addr) (f : Nat → Int) (w : World) (lo hi : Nat) (hr : w.rowIs b 2 (n + 1) (Z.ku .i64 (lentZ n f))) (h : Z.Sq .i64 w lo hi A n f) (hn : n ≤ 1000000) (hhi : hi ≤ w.heap.size) :
    Calls Try.prog 17 #[.slice (some ⟨b, 0, none⟩) n (n + 1), .slice A n c] w (RetV w (.bool true)) := by
  have hsq : Z.Sq .i64 w 0 w.heap.size (some ⟨b, 0, none⟩) n f := Z.Sq.of_row hr (by omega) (Nat.zero_le _) hr.lt h.1 fun j hj => lentZ_lt hj
  have hs := (same8_any n n (n + 1) c (some ⟨b, 0, none⟩) A f f w 0 w.heap.size lo hi hsq h hn hn (Nat.le_refl _) hhi).mono fun e w' hh => hh.yes ⟨rfl, fun _ _ => rfl⟩
  have HS := Lib.hid hs
  have hb := hr.lt
  have hcell : w.cell? ⟨b, n, none⟩ = some (.int .i64 (-9223372036854775808)) := by
    rw [hr.cell (show n < n + 1 by omega)]
    simp [Z.ku, lentZ]
  have HC := Lib.hid hcell
  clear hs hsq h hr hcell
  go_enter Try.func17, Try.ntmps17
  go_wp2_with (go_at_call 20; refine HS.out.mono ?_; rintro e w' ⟨rfl, hbel⟩; have hc2 := (hbel.cell (p := ⟨b, n, none⟩) hb).trans HC.out)
  go_ret
  exact ⟨rfl, hbel⟩
end Go.Proofs.Ytcnkddoipmaddaa

namespace Go.Proofs.Ytcnkddoipmaddaa
open Go.RowKit
set_option linter.unusedVariables false

/-- the turn within a row -/
def tnN (n : Nat) (t : Int) : Nat := (t % ((n / 2 : Nat) : Int)).toNat
/-- the exponent of the automorphism -/
def powN (n : Nat) (t : Int) (s : Bool) : Nat := if s then 2 * n - 3 ^ tnN n t % (2 * n) else 3 ^ tnN n t % (2 * n)
theorem tnN_lt {n : Nat} {t : Int} (h : 4 ≤ n) : tnN n t < n / 2 ∧ ((tnN n t : Nat) : Int) = t % ((n / 2 : Nat) : Int) := by
  unfold tnN
  have h0 := Int.emod_nonneg t (show ((n / 2 : Nat) : Int) ≠ 0 by omega)
  have h1 := Int.emod_lt_of_pos t (show (0 : Int) < ((n / 2 : Nat) : Int) by omega)
  omega

theorem power8_nil (t s : Value) (w : World) : Calls Try.prog 23 #[.pointer none, t, s] w (RetP w (.tuple #[.int .i64 0, .int .i64 1])) := by
  go_enter Try.func23, Try.ntmps23
  go_wp2
  go_ret2
  exact ⟨rfl, rfl⟩
theorem power8_zero (b : Nat) (t s : Value) (w : World) (h : w.cell? ⟨b, 0, none⟩ = some (.int .i64 0)) : Calls Try.prog 23 #[.pointer (some ⟨b, 0, none⟩), t, s] w (RetP w (.tuple #[.int .i64 0, .int .i64 1])) := by
  go_enter Try.func23, Try.ntmps23
  go_wp2
  go_ret2
  exact ⟨rfl, rfl⟩

set_option maxRecDepth 100000 in
set_option maxHeartbeats 1000000 in
theorem power8_any (lo b n p R x : Nat) (t : Int) (s : Bool) (w : World) (h : Sl w lo b n p R x) (hn : 4 ≤ n) (hn2 : n ≤ 32) :
    Calls Try.prog 23 #[.pointer (some ⟨b, 0, none⟩), .int .i64 t, .bool s] w (RetQ w (.tuple #[.int .i64 ((powN n t s : Nat) : Int), .int .i64 0])) := by
  have k0 := h.cN
  have f0 : ((n : Int) == 0) = false := by simp; omega
  have hn0 : ¬ n = 0 := by omega
  obtain ⟨hh, hhe⟩ : ∃ hh, n / 2 = hh := ⟨_, rfl⟩
  have hht : (n : Int).tdiv 2 = (hh : Int) := by rw [Int.tdiv_eq_ediv_of_nonneg (by omega)]; omega
  have hhd : (n : Int) / 2 = (hh : Int) := by omega
  obtain ⟨h1, h2⟩ := tnN_lt (t := t) hn
  obtain ⟨j, hj⟩ : ∃ j, tnN n t = j := ⟨_, rfl⟩
  rw [hj, hhe] at h1 h2
  have kx := h.ex j (by omega)
  have hex : exN n j = 3 ^ j % (2 * n) := by unfold exN; rw [hhe, if_pos h1]
  obtain ⟨v, hv⟩ : ∃ v, 3 ^ j % (2 * n) = v := ⟨_, rfl⟩
  rw [hex, hv] at kx
  have hvb : v < 2 * n := by rw [← hv]; exact Nat.mod_lt _ (by omega)
  have HV : Hid (powN n t s = if s then 2 * n - v else v) := Lib.hid (by unfold powN; rw [hj, hv])
  obtain ⟨a, ha, a1, a2, a3⟩ := tm_fact t (m := hh) (by omega)
  have hu : (a + (hh : Int)).tmod (hh : Int) = (j : Int) := by
    rw [Int.tmod_eq_emod_of_nonneg (by omega), h2]
    refine cg_emod (by omega) ?_
    exact (a3.add (show Cg hh (hh : Int) 0 from ⟨1, by omega⟩)).trans (Cg.of_eq (by omega))
  have hh0 : ¬ hh = 0 := by omega
  have hj0 : 0 ≤ (j : Int) := by omega
  have hj32 : (j : Int) < 32 := by omega
  have hj32' : j < 32 := by omega
  clear h hex hv a3 h2 hj hhe
  cases s
  · go_enter Try.func23, Try.ntmps23
    go_wp2
    go_quiet (fail)
    go_wp2
    go_ret2
    exact ⟨by rw [HV.out]; rfl, _, rfl⟩
  · have hsub : 2 * (n : Int) - (v : Int) = ((2 * n - v : Nat) : Int) := by omega
    obtain ⟨v2, hv2⟩ : ∃ v2, 2 * n - v = v2 := ⟨_, rfl⟩
    rw [hv2] at hsub HV
    clear hv2
    go_enter Try.func23, Try.ntmps23
    go_wp2
    go_quiet (fail)
    go_wp2
    go_ret2
    exact ⟨by rw [HV.out]; rfl, _, rfl⟩

set_option maxRecDepth 100000 in
set_option maxHeartbeats 1000000 in
theorem rpower8_any (lo b n p R x : Nat) (t : Int) (s : Bool) (w : World) (h : Rz w lo b n p R x) (hn : 4 ≤ n) (hn2 : n ≤ 32) :
    Calls Try.prog 25 #[.pointer (some ⟨b, 0, none⟩), .int .i64 t, .bool s] w (RetQ w (.tuple #[.int .i64 ((powN n t s : Nat) : Int), .int .i64 0])) := by
  have k0 := h.cN
  have hn0 : ¬ n = 0 := by omega
  obtain ⟨hh, hhe⟩ : ∃ hh, n / 2 = hh := ⟨_, rfl⟩
  have hht : (n : Int).tdiv 2 = (hh : Int) := by rw [Int.tdiv_eq_ediv_of_nonneg (by omega)]; omega
  have hhd : (n : Int) / 2 = (hh : Int) := by omega
  obtain ⟨h1, h2⟩ := tnN_lt (t := t) hn
  obtain ⟨j, hj⟩ : ∃ j, tnN n t = j := ⟨_, rfl⟩
  rw [hj, hhe] at h1 h2
  have HT := Lib.hid (fun d => turned_any b n j (w.drewN d) k0 hn hn2 (by omega))
  obtain ⟨v, hv⟩ : ∃ v, 3 ^ j % (2 * n) = v := ⟨_, rfl⟩
  rw [hv] at HT
  have hvb : v < 2 * n := by rw [← hv]; exact Nat.mod_lt _ (by omega)
  have HV : Hid (powN n t s = if s then 2 * n - v else v) := Lib.hid (by unfold powN; rw [hj, hv])
  obtain ⟨a, ha, a1, a2, a3⟩ := tm_fact t (m := hh) (by omega)
  have hcase : (a < 0 ∧ a + (hh : Int) = (j : Int)) ∨ (¬ a < 0 ∧ a = (j : Int)) := by
    have e : (j : Int) = a % (hh : Int) := by rw [h2]; exact (cg_emod (by omega) a3).symm
    by_cases hneg : a < 0
    · refine .inl ⟨hneg, ?_⟩
      rw [e, ← Int.add_emod_right]
      exact (Int.emod_eq_of_lt (by omega) (by omega)).symm
    · exact .inr ⟨hneg, by rw [e]; exact (Int.emod_eq_of_lt (by omega) (by omega)).symm⟩
  have hh0 : ¬ hh = 0 := by omega
  have HT0 := Lib.hid (HT.out 0)
  have hw0 : w.drewN 0 = w := rfl
  rw [hw0] at HT0
  clear h hv a3 h2 hj hhe hw0
  obtain ⟨v2, hv2⟩ : ∃ v2, 2 * n - v = v2 := ⟨_, rfl⟩
  have hsub : 2 * (n : Int) - (v : Int) = (v2 : Int) := by omega
  rw [hv2] at HV
  clear hv2
  rcases hcase with ⟨hneg, he⟩ | ⟨hneg, he⟩
  · have e1 : decide (a < 0) = true := decide_eq_true hneg
    cases s
    · go_enter Try.func25, Try.ntmps25
      go_wp2_with (go_at_call 41; refine HT0.out.mono ?_; rintro e w' ⟨rfl, hw⟩; subst hw)
      go_ret2
      exact ⟨by rw [HV.out]; rfl, 0, rfl⟩
    · go_enter Try.func25, Try.ntmps25
      go_wp2
      go_quiet ((exact (HT.out _).mono fun e w' hh => ⟨hh.1, _, hh.2.symm⟩))
      go_wp2
      go_ret2
      exact ⟨by rw [HV.out]; rfl, _, rfl⟩
  · have e1 : decide (a < 0) = false := decide_eq_false hneg
    subst he
    cases s
    · go_enter Try.func25, Try.ntmps25
      go_wp2_with (go_at_call 41; refine HT0.out.mono ?_; rintro e w' ⟨rfl, hw⟩; subst hw)
      go_ret2
      exact ⟨by rw [HV.out]; rfl, 0, rfl⟩
    · go_enter Try.func25, Try.ntmps25
      go_wp2
      go_quiet ((exact (HT.out _).mono fun e w' hh => ⟨hh.1, _, hh.2.symm⟩))
      go_wp2
      go_ret2
      exact ⟨by rw [HV.out]; rfl, _, rfl⟩
end Go.Proofs.Ytcnkddoipmaddaa
