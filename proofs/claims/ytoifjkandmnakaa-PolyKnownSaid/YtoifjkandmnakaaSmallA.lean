/- The contracts of small functions of the reference: at, Same, power, Trim; and of the law's own: large, spoil, lent, kept. -/
import Derived.Test.YtoifjkandmnakaaTrim
import Derived.Test.YtoifjkandmnakaaPlain
import Derived.RegionTactic
import Derived.Deep.QuietTactic
import Derived.BigQuiet
namespace Go.Proofs.Ytoifjkandmnakaa
open Go.RowKit

/-- a call that returns one value and leaves what was there -/
def RetV (w : World) (v : Value) (e : Ending) (w' : World) : Prop := e = .returned v ∧ Below w.heap.size w w'

/-- a call that returns one value and leaves the world as it is -/
def RetP (w : World) (v : Value) (e : Ending) (w' : World) : Prop := e = .returned v ∧ w = w'

set_option maxHeartbeats 400000 in
theorem at_any (A : Option Addr) (n c : Nat) (f : Nat → Nat) (i : Int) (w : World) (lo hi : Nat) (h : Sq .u32 w lo hi A n f) (hn : n ≤ 1000000) (h0 : 0 ≤ i) (hf : ∀ j, f j ≤ 4294967295) :
    Calls Try.prog 53 #[.slice A n c, .int .i64 i] w (RetP w (.int .u64 (f i.toNat))) := by
  obtain ⟨k, rfl⟩ := Int.eq_ofNat_of_zero_le h0
  rw [Int.toNat_natCast]
  by_cases hk : k < n
  · obtain ⟨b, off, rfl, _, _, hcell⟩ := h.2 (by omega)
    have hc1 := hcell k hk
    obtain ⟨x, hx⟩ : ∃ x, f k = x := ⟨_, rfl⟩
    have hxm := hf k
    rw [hx] at hc1 hxm
    rw [hx]
    clear hx hcell h hf
    go_enter Try.func53, Try.ntmps53
    go_wp2
    go_ret
    exact ⟨rfl, rfl⟩
  · rw [h.1 k (by omega)]
    clear h hf
    go_enter Try.func53, Try.ntmps53
    go_wp2
    go_ret
    exact ⟨rfl, rfl⟩

/-- the cells of a slice of slices -/
def Cs (w : World) (b L : Nat) (A : Nat → Option Addr) (n c : Nat → Nat) : Prop := ∀ i, i < L → w.cell? ⟨b, i, none⟩ = some (.slice (A i) (n i) (c i))

def two {α : Type} (x y : α) : Nat → α := fun i => if i = 0 then x else y

theorem Cs.two_ {w : World} {b n1 n2 c1 c2 : Nat} {A1 A2 : Option Addr} (h0 : w.cell? ⟨b, 0, none⟩ = some (.slice A1 n1 c1)) (h1 : w.cell? ⟨b, 1, none⟩ = some (.slice A2 n2 c2)) : Cs w b 2 (two A1 A2) (two n1 n2) (two c1 c2) := by
  intro i hi
  match i, hi with
  | 0, _ => exact h0
  | 1, _ => exact h1
theorem Cs.one_ {w : World} {b n1 c1 : Nat} {A1 : Option Addr} (h0 : w.cell? ⟨b, 0, none⟩ = some (.slice A1 n1 c1)) : Cs w b 1 (fun _ => A1) (fun _ => n1) (fun _ => c1) := by
  intro i hi
  match i, hi with
  | 0, _ => exact h0

def anyLong (L : Nat) (n : Nat → Nat) : Bool := (List.range L).any fun i => decide (300 < n i)

theorem anyLong_true {L k : Nat} {n : Nat → Nat} (hk : k < L) (h : 300 < n k) : anyLong L n = true := by
  unfold anyLong
  simp only [List.any_eq_true, List.mem_range, decide_eq_true_eq]
  exact ⟨k, hk, h⟩
theorem anyLong_false {L : Nat} {n : Nat → Nat} (h : ∀ k, k < L → n k ≤ 300) : anyLong L n = false := by
  unfold anyLong
  simp only [List.any_eq_false, List.mem_range, decide_eq_true_eq]
  intro k hk
  have := h k hk
  omega

set_option maxHeartbeats 400000 in
theorem large_any (b L : Nat) (A : Nat → Option Addr) (n c : Nat → Nat) (w : World) (h : Cs w b L A n c) (hn : ∀ i, i < L → n i ≤ 9223372036854775807) (hL : L ≤ 8) :
    Calls Try.prog 15 #[.slice (some ⟨b, 0, none⟩) L L] w (RetV w (.bool (anyLong L n))) := by
  go_enter Try.func15, Try.ntmps15
  go_wp2
  go_loop [3] (fun i => ∃ k : Nat, k ≤ L ∧ i = .int .i64 k ∧ (∀ j, j < k → n j ≤ 300)) (fun i => L - (intOf i).toNat)
  case atStart => exact ⟨0, Nat.zero_le _, rfl, fun j hj => absurd hj (Nat.not_lt_zero j)⟩
  case round =>
    obtain ⟨k, hk, rfl, hle⟩ := hrel
    have HL := Lib.hid hle
    clear hle
    by_cases hkL : k < L
    · have hc := h k hkL
      have hnk := hn k hkL
      obtain ⟨x, hx⟩ : ∃ x, n k = x := ⟨_, rfl⟩
      rw [hx] at hc hnk
      have HX := Lib.hid hx
      clear h hn hx
      go_wp2
      · have hlt : (300 : Int) < (x : Int) := by assumption
        go_ret
        exact ⟨by rw [anyLong_true hkL (by rw [HX.out]; omega)]; rfl, Below.refl _ _⟩
      · have hle : (x : Int) ≤ 300 := by assumption
        go_round
        case rel =>
          refine ⟨k + 1, by omega, by go_num, fun j hj => ?_⟩
          rcases Nat.lt_or_ge j k with h | h
          · exact HL.out j h
          · rw [show j = k from by omega, HX.out]; omega
        case measure => simp [intOf]; omega
    · clear h hn
      go_wp2
      go_ret
      exact ⟨by rw [anyLong_false (fun j hj => HL.out j (by omega))]; rfl, Below.refl _ _⟩

set_option maxHeartbeats 400000 in
theorem same0_any (n nb ca cb : Nat) (A B : Option Addr) (a b : Nat → Nat) (w : World) (lo hi lo2 hi2 : Nat) (ha : Sq .u32 w lo hi A n a) (hb : Sq .u32 w lo2 hi2 B nb b) (hn : n ≤ 1000000) (hnb : nb ≤ 1000000) (hhi : hi ≤ w.heap.size) (hhi2 : hi2 ≤ w.heap.size) :
    Calls Try.prog 50 #[.slice A n ca, .slice B nb cb] w (RetV w (.bool (sameB n a nb b))) := by
  by_cases hl : n = nb
  · subst hl
    go_enter Try.func50, Try.ntmps50
    go_wp2
    go_loopw [5] (fun i wr => ∃ k : Nat, k ≤ n ∧ i = .int .i64 k ∧ (∀ j, j < k → a j = b j) ∧ Below w.heap.size w wr) (fun i _ => n - (intOf i).toNat)
    case atStart => exact ⟨0, Nat.zero_le _, rfl, fun j hj => absurd hj (Nat.not_lt_zero j), Below.refl _ _⟩
    case round =>
      obtain ⟨k, hk, rfl, heq, hbel⟩ := hrel
      have HE := Lib.hid heq
      clear heq
      by_cases hkn : k < n
      · obtain ⟨g, off, rfl, _, hg1, hcell⟩ := ha.2 (by omega)
        obtain ⟨g2, off2, rfl, _, hg2, hcell2⟩ := hb.2 (by omega)
        have hc1 := (hbel.cell (p := ⟨g, off + k, none⟩) (by show g < _; omega)).trans (hcell k hkn)
        have hc2 := (hbel.cell (p := ⟨g2, off2 + k, none⟩) (by show g2 < _; omega)).trans (hcell2 k hkn)
        obtain ⟨x, hx⟩ : ∃ x, a k = x := ⟨_, rfl⟩
        obtain ⟨y, hy⟩ : ∃ y, b k = y := ⟨_, rfl⟩
        rw [hx] at hc1
        rw [hy] at hc2
        have HX := Lib.hid hx
        have HY := Lib.hid hy
        clear hx hy hcell hcell2 ha hb
        go_wp2
        go_quiet (fail)
        go_wp2
        · have hne : ((x : Int) != (y : Int)) = true := by assumption
          have hne2 : x ≠ y := by
            intro e
            subst e
            simp at hne
          go_ret
          refine ⟨?_, below_drewN hbel _⟩
          rw [sameB_ne2 hkn (by rw [HX.out, HY.out]; exact hne2)]
          rfl
        · have hne : ((x : Int) != (y : Int)) = false := by assumption
          have hne2 : x = y := by
            have e : (x : Int) = (y : Int) := by simpa using hne
            omega
          go_roundw
          case rel =>
            refine ⟨k + 1, by omega, by go_num, fun j hj => ?_, below_drewN hbel _⟩
            rcases Nat.lt_or_ge j k with h | h
            · exact HE.out j h
            · rw [show j = k from by omega, HX.out, HY.out, hne2]
          case measure => simp [intOf]; omega
      · clear ha hb
        go_wp2
        go_ret
        refine ⟨?_, hbel⟩
        rw [sameB_true.2 ⟨rfl, fun j hj => HE.out j (by omega)⟩]
        rfl
  · rw [sameB_ne1 hl]
    have h1 : ((n : Int) != (nb : Int)) = true := by
      simp only [bne_iff_ne, ne_eq]
      omega
    clear ha hb
    go_enter Try.func50, Try.ntmps50
    go_wp2
    go_ret
    exact ⟨rfl, Below.refl _ _⟩

set_option maxHeartbeats 400000 in
theorem same_any (n nb ca cb : Nat) (A B : Option Addr) (a b : Nat → Nat) (w : World) (lo hi lo2 hi2 : Nat) (ha : Sq .u32 w lo hi A n a) (hb : Sq .u32 w lo2 hi2 B nb b) (hn : n ≤ 1000000) (hnb : nb ≤ 1000000) (hhi : hi ≤ w.heap.size) (hhi2 : hi2 ≤ w.heap.size) :
    Calls Try.prog 22 #[.slice A n ca, .slice B nb cb] w (RetV w (.bool (sameB n a nb b))) := by
  go_enter Try.func22, Try.ntmps22
  go_wp2_with (go_at_call 50; refine (same0_any n nb ca cb A B a b _ _ _ _ _ ha hb hn hnb hhi hhi2).mono ?_; rintro e w' ⟨rfl, hbel⟩)
  go_ret
  exact ⟨rfl, hbel⟩

/-- what spoil leaves: the block b alone is written -/
def RetSpoil (w : World) (b e n c : Nat) (f : Nat → Nat) (en : Ending) (w' : World) : Prop :=
  en = .returned (.tuple #[]) ∧ w'.rowIs b e c (ku .u32 fun j => if j < n then 4294967295 else f j) ∧ w.grownBy w' (some b) ∧ w'.heap.size = w.heap.size

theorem grownBy_setCell {w w' : World} {b i : Nat} {v : Value} (h : w.grownBy w' (some b)) : w.grownBy (w'.setCell ⟨b, i, none⟩ v) (some b) :=
  ⟨h.os, h.tape, h.output, by simpa using h.size, fun k hk hne => (Below.heap_setCell w' ⟨b, i, none⟩ v k (fun e => hne (by rw [e]))).trans (h.block k hk hne)⟩

set_option maxHeartbeats 400000 in
theorem spoil_any (b e n c c2 : Nat) (f : Nat → Nat) (w : World) (hr : w.rowIs b e c (ku .u32 f)) (hnc : n ≤ c) (hn : n ≤ 1000000) :
    Calls Try.prog 20 #[.slice (some ⟨b, 0, none⟩) n c2] w (RetSpoil w b e n c f) := by
  go_enter Try.func20, Try.ntmps20
  go_wp2
  go_loopw [2] (fun i wr => ∃ k : Nat, k ≤ n ∧ i = .int .i64 k ∧ wr.rowIs b e c (ku .u32 fun j => if j < k then 4294967295 else f j) ∧ w.grownBy wr (some b) ∧ wr.heap.size = w.heap.size) (fun i _ => n - (intOf i).toNat)
  case atStart =>
    refine ⟨0, Nat.zero_le _, rfl, hr.congr fun j _ => ?_, World.grownBy.refl _ _, rfl⟩
    simp [ku]
  case round =>
    obtain ⟨k, hk, rfl, hrr, hg, hsz⟩ := hrel
    have HS := Lib.hid hsz
    clear hsz hr
    by_cases hkn : k < n
    · have hc2 := hrr.cell (show k < c by omega)
      simp only [ku, Nat.lt_irrefl, if_false] at hc2
      have hf2 := hrr.frozen k
      have HR := Lib.hid hrr
      clear hrr
      go_wp2
      go_roundw
      case rel =>
        refine ⟨k + 1, by omega, by go_num, ?_, grownBy_setCell hg, by simpa using HS.out⟩
        refine (rowIs_set_ku HR.out k 4294967295).congr fun j _ => ?_
        simp only [ku]
        congr 2
        by_cases h1 : j = k
        · rw [if_pos h1, if_pos (by omega)]
        · rw [if_neg h1]
          by_cases h2 : j < k
          · rw [if_pos h2, if_pos (by omega)]
          · rw [if_neg h2, if_neg (by omega)]
      case measure => simp [intOf]; omega
    · obtain rfl : k = n := by omega
      go_wp2
      go_end0
      exact ⟨rfl, hrr, hg, HS.out⟩

set_option maxHeartbeats 400000 in
theorem power_any (c n : Nat) (w : World) (hn : n ≤ 1000) :
    Calls Try.prog 64 #[.int .u32 c, .int .i64 n] w (RetSl w (n + 1) (fun j => if j = n then c else 0)) := by
  have hn1 : ((n : Int) + 1) = ((n + 1 : Nat) : Int) := by omega
  have HN := Lib.hid hn1
  clear hn1
  go_enter Try.func64, Try.ntmps64
  go_wp2_with (at_make; refine wpl_make rfl _ _ _ rfl e32 .i64 .i64 _ _ (n + 1) rfl rfl HN.out HN.out (by omega) (by unfold maxLen; omega) ?_; intro w1 hr1 hb1 hs1; have hc1 := hr1.cell (show n < n + 1 by omega); simp only [ku] at hc1; have hf1 := hr1.frozen n)
  go_ret
  refine ⟨_, _, rfl, Nat.le_refl _, ?_, hb1.setCell (Nat.le_refl _) _⟩
  refine Sq.of_row (rowIs_set_ku hr1 n c) (Nat.le_refl _) (Nat.le_refl _) (by simpa using hs1) (fun j hj => ?_) fun j hj => rfl
  rw [if_neg (by omega)]

set_option maxHeartbeats 400000 in
theorem rtrim_any (A : Option Addr) (n c : Nat) (f : Nat → Nat) (w : World) (lo hi : Nat) (h : Sq .u32 w lo hi A n f) (hc : n ≤ c) (hn : n ≤ 1000000) :
    Calls Try.prog 26 #[.slice A n c] w (RetSl w (tl f n) f) := by
  have HS := Lib.hid (sq_tl h)
  go_enter Try.func26, Try.ntmps26
  go_wp2
  go_loop [3] (fun t => ∃ k : Nat, k ≤ n ∧ t = .int .i64 k ∧ (∀ j, k ≤ j → j < n → f j = 0)) (fun t => (intOf t).toNat)
  case atStart => exact ⟨n, by omega, rfl, fun j h1 h2 => by omega⟩
  case round =>
    obtain ⟨k, hk, rfl, hz⟩ := hrel
    have HZ := Lib.hid hz
    clear hz
    by_cases hk0 : 0 < k
    · obtain ⟨b, off, rfl, _, _, hcell⟩ := h.2 (by omega)
      have hc1 := hcell (k-1) (by omega)
      obtain ⟨x, hx⟩ : ∃ x, f (k-1) = x := ⟨_, rfl⟩
      rw [hx] at hc1
      have HX := Lib.hid hx
      clear hx hcell h
      have hkz : ((k : Int) - 1).toNat = k - 1 := by omega
      by_cases hx0 : x = 0
      · subst hx0
        go_wp2
        go_round
        case rel =>
          refine ⟨k - 1, by omega, by go_num, fun j h1 h2 => ?_⟩
          rcases Nat.lt_or_ge j k with h | h
          · rw [show j = k - 1 from by omega, HX.out]
          · exact HZ.out j h h2
        case measure => simp [intOf]; omega
      · have hxz : ((x : Int) == 0) = false := by simp; omega
        have hT : tl f n = k := tl_unique hk HZ.out (fun _ => by rw [HX.out]; exact hx0)
        rw [hT] at HS
        have HT := Lib.hid hT
        clear hT
        go_wp2_with (at_builtin; refine wpl_append rfl _ _ _ rfl e32 rfl (Own.nil _ _ w.heap.size _) rfl HS.out f (fun j h => absurd h (Nat.not_lt_zero j)) (fun j => by rw [Nat.zero_add]) (by unfold maxLen; omega) (by omega) (Nat.le_refl _) ?_; intro A1 c1 w1 hown1 hg1 hb1 hat1)
        go_ret
        have hT := HT.out
        exact ⟨_, _, ret_slice (by omega), by have := hown1.le; omega, sq_n (hown1.sq (Nat.le_refl _)) (by omega), hb1⟩
    · obtain rfl : k = 0 := by omega
      have hT : tl f n = 0 := tl_unique hk HZ.out (fun h => absurd h (Nat.lt_irrefl 0))
      rw [hT] at HS
      have HT := Lib.hid hT
      clear hT h
      go_wp2_with (at_builtin; refine wpl_append rfl _ _ _ rfl e32 rfl (Own.nil _ _ w.heap.size _) rfl HS.out f (fun j h => absurd h (Nat.not_lt_zero j)) (fun j => by rw [Nat.zero_add]) (by unfold maxLen; omega) (by omega) (Nat.le_refl _) ?_; intro A1 c1 w1 hown1 hg1 hb1 hat1)
      go_ret
      have hT := HT.out
      exact ⟨_, _, ret_slice (by omega), by have := hown1.le; omega, sq_n (hown1.sq (Nat.le_refl _)) (by omega), hb1⟩

/-- what lent leaves: the elements, behind them the mark -/
def lentF (n : Nat) (f : Nat → Nat) : Nat → Nat := fun j => if j < n then f j else if j = n then 4294967295 else 0
theorem lentF_lt {n j : Nat} {f : Nat → Nat} (h : j < n) : lentF n f j = f j := if_pos h
theorem lentF_add {n : Nat} {f : Nat → Nat} (j : Nat) : lentF n f (n + j) = oneF 4294967295 j := by
  unfold lentF oneF
  rw [if_neg (by omega)]
  by_cases h : j = 0
  · rw [if_pos (by omega), if_pos h]
  · rw [if_neg (by omega), if_neg h]
def RetLent (w : World) (n : Nat) (f : Nat → Nat) (e : Ending) (w' : World) : Prop :=
  e = .returned (.slice (some ⟨w.heap.size, 0, none⟩) n (n + 1)) ∧ w'.rowIs w.heap.size 22 (n + 1) (ku .u32 (lentF n f)) ∧ Below w.heap.size w w' ∧ w.heap.size < w'.heap.size

set_option maxHeartbeats 400000 in
theorem lent_any (A : Option Addr) (n c : Nat) (f : Nat → Nat) (w : World) (lo hi : Nat) (h : Sq .u32 w lo hi A n f) (hn : n ≤ 1000000) (hhi : hi ≤ w.heap.size) :
    Calls Try.prog 17 #[.slice A n c] w (RetLent w n f) := by
  have hn1 : ((n : Int) + 1) = ((n + 1 : Nat) : Int) := by omega
  have HN := Lib.hid hn1
  clear hn1
  go_enter Try.func17, Try.ntmps17
  go_wp2_with (first
    | (at_make; refine wpl_make0 rfl _ _ _ rfl e32 .i64 .i64 _ (n + 1) rfl rfl HN.out (by omega) (by unfold maxLen; omega) ?_; intro w1 hown1 hb1; have hs1 : w.heap.size < w1.heap.size := own_lt hown1)
    | (at_builtin; refine wpl_append_fits rfl (.tmp 7) (.tmp 8) _ rfl e32 rfl hown1 rfl (h.below hb1 hhi) f (fun j h => absurd h (Nat.not_lt_zero j)) (fun j => by rw [Nat.zero_add]) (by omega) ?_; intro w2 hown2 hg2; rw [Nat.zero_add] at hown2)
    | (at_builtin; refine wpl_append_fits rfl (.tmp 10) (.tmp 11) _ rfl e32 rfl (hown2.alloc _) rfl (sq_one (x := 4294967295) (lo := w.heap.size) (hi := w2.heap.size + 1) rfl (Nat.le_trans hb1.size hg2.size) (Nat.lt_succ_self _)) (lentF n f) (fun j hj => lentF_lt hj) lentF_add (by omega) ?_; intro w3 hown3 hg3))
  go_ret
  have hb2 := hb1.grown hg2 (Nat.le_of_lt hs1) (fun g hg => by injection hg with hg; omega)
  have hb3 := (hb2.alloc hb2.size (.cells #[.int .u32 4294967295] 22)).grown hg3 (by have := hb2.size; simp; omega) (fun g hg => by injection hg with hg; omega)
  exact ⟨rfl, hown3.row, hb3, by have := hg2.size; have := hg3.size; simp at this; omega⟩

set_option maxHeartbeats 400000 in
theorem kept_any (b n c : Nat) (A : Option Addr) (f : Nat → Nat) (w : World) (lo hi : Nat) (hr : w.rowIs b 22 (n + 1) (ku .u32 (lentF n f))) (h : Sq .u32 w lo hi A n f) (hn : n ≤ 1000000) (hhi : hi ≤ w.heap.size) :
    Calls Try.prog 19 #[.slice (some ⟨b, 0, none⟩) n (n + 1), .slice A n c] w (RetV w (.bool true)) := by
  have hsq : Sq .u32 w 0 w.heap.size (some ⟨b, 0, none⟩) n f := Sq.of_row hr (by omega) (Nat.zero_le _) hr.lt h.1 fun j hj => lentF_lt hj
  have hs := same_any n n (n + 1) c (some ⟨b, 0, none⟩) A f f w 0 w.heap.size lo hi hsq h hn hn (Nat.le_refl _) hhi
  rw [sameB_refl] at hs
  have HS := Lib.hid hs
  have hb := hr.lt
  have hcell : w.cell? ⟨b, n, none⟩ = some (.int .u32 4294967295) := by
    rw [hr.cell (show n < n + 1 by omega)]
    simp [ku, lentF]
  have HC := Lib.hid hcell
  clear hs hsq h hr hcell
  go_enter Try.func19, Try.ntmps19
  go_wp2_with (go_at_call 22; refine HS.out.mono ?_; rintro e w' ⟨rfl, hbel⟩; have hc2 := (hbel.cell (p := ⟨b, n, none⟩) hb).trans HC.out)
  go_ret
  exact ⟨rfl, hbel⟩

set_option maxHeartbeats 400000 in
theorem check_any (m n c : Nat) (A : Option Addr) (f : Nat → Nat) (w : World) (lo hi : Nat) (h : Sq .u32 w lo hi A n f) (hn : n ≤ 9223372036854775807) :
    Calls Try.prog 27 #[.int .u32 m, .slice A n c] w (RetV w (.int .i64 (chk m n f))) := by
  by_cases hm1 : m < 2
  · rw [chk_m (.inl hm1)]
    go_enter Try.func27, Try.ntmps27
    go_wp2
    go_ret
    exact ⟨rfl, Below.refl _ _⟩
  by_cases hm2 : 2147483647 < m
  · rw [chk_m (.inr hm2)]
    go_enter Try.func27, Try.ntmps27
    go_wp2
    go_ret
    exact ⟨rfl, Below.refl _ _⟩
  by_cases hl : 256 < n
  · rw [chk_long (by omega) (by omega) hl]
    go_enter Try.func27, Try.ntmps27
    go_wp2
    go_ret
    exact ⟨rfl, Below.refl _ _⟩
  go_enter Try.func27, Try.ntmps27
  go_wp2
  go_loop [5] (fun i => ∃ k : Nat, k ≤ n ∧ i = .int .i64 k ∧ (∀ j, j < k → f j < m)) (fun i => n - (intOf i).toNat)
  case atStart => exact ⟨0, Nat.zero_le _, rfl, fun j hj => absurd hj (Nat.not_lt_zero j)⟩
  case round =>
    obtain ⟨k, hk, rfl, hle⟩ := hrel
    have HL := Lib.hid hle
    clear hle
    by_cases hkn : k < n
    · obtain ⟨g, off, rfl, _, _, hcell⟩ := h.2 (by omega)
      have hc1 := hcell k hkn
      obtain ⟨x, hx⟩ : ∃ x, f k = x := ⟨_, rfl⟩
      rw [hx] at hc1
      have HX := Lib.hid hx
      clear hx hcell h
      by_cases hxm : m ≤ x
      · go_wp2
        go_ret
        exact ⟨by rw [chk_big (by omega) (by omega) (by omega) hkn (by rw [HX.out]; exact hxm)]; rfl, Below.refl _ _⟩
      · go_wp2
        go_round
        case rel =>
          refine ⟨k + 1, by omega, by go_num, fun j hj => ?_⟩
          rcases Nat.lt_or_ge j k with h | h
          · exact HL.out j h
          · rw [show j = k from by omega, HX.out]; omega
        case measure => simp [intOf]; omega
    · obtain rfl : k = n := by omega
      by_cases hn0 : 0 < k
      · obtain ⟨g, off, rfl, _, _, hcell⟩ := h.2 (by omega)
        have hc1 := hcell (k - 1) (by omega)
        obtain ⟨x, hx⟩ : ∃ x, f (k - 1) = x := ⟨_, rfl⟩
        rw [hx] at hc1
        have HX := Lib.hid hx
        clear hx hcell h
        have hkz : ((k : Int) - 1).toNat = k - 1 := by omega
        by_cases hx0 : x = 0
        · subst hx0
          go_wp2
          go_ret
          exact ⟨by rw [chk_last (by omega) (by omega) (by omega) hn0 HX.out]; rfl, Below.refl _ _⟩
        · have hxz : ((x : Int) == 0) = false := by simp; omega
          go_wp2
          go_ret
          exact ⟨by rw [chk_ok (by omega) (by omega) (by omega) HL.out (fun _ => by rw [HX.out]; exact hx0)]; rfl, Below.refl _ _⟩
      · clear h
        go_wp2
        go_ret
        exact ⟨by rw [chk_ok (by omega) (by omega) (by omega) HL.out (fun h => absurd h hn0)]; rfl, Below.refl _ _⟩

set_option maxHeartbeats 400000 in
theorem both_any (m n nb ca cb : Nat) (A B : Option Addr) (a b : Nat → Nat) (w : World) (lo hi lo2 hi2 : Nat) (ha : Sq .u32 w lo hi A n a) (hb : Sq .u32 w lo2 hi2 B nb b) (hn : n ≤ 9223372036854775807) (hnb : nb ≤ 9223372036854775807) (hhi2 : hi2 ≤ w.heap.size) :
    Calls Try.prog 47 #[.int .u32 m, .slice A n ca, .slice B nb cb] w (RetV w (.int .i64 (chk2 m n a nb b))) := by
  have h1 := check_any m n ca A a w lo hi ha hn
  have HB := Lib.hid hb
  by_cases h0 : chk m n a = 0
  · unfold chk2
    rw [if_pos h0]
    rw [h0] at h1
    have H1 := Lib.hid h1
    clear h1 h0 ha hb
    go_enter Try.func47, Try.ntmps47
    go_wp2_with fail
    refine H1.out.mono ?_
    rintro e w1 ⟨rfl, hb1⟩
    go_wp2_with fail
    refine (check_any m nb cb B b w1 lo2 hi2 (HB.out.below hb1 hhi2) hnb).mono ?_
    rintro e w2 ⟨rfl, hb2⟩
    go_wp2
    go_ret
    exact ⟨rfl, hb1.trans (hb2.mono hb1.size)⟩
  · unfold chk2
    rw [if_neg h0]
    obtain ⟨x, hx⟩ : ∃ x, chk m n a = x := ⟨_, rfl⟩
    rw [hx] at h1 h0
    rw [hx]
    have hxz : ((x : Int) != 0) = true := by simp; omega
    have H1 := Lib.hid h1
    clear h1 hx ha hb
    go_enter Try.func47, Try.ntmps47
    go_wp2_with fail
    refine H1.out.mono ?_
    rintro e w1 ⟨rfl, hb1⟩
    go_wp2
    go_ret
    exact ⟨rfl, hb1⟩
end Go.Proofs.Ytoifjkandmnakaa
