/- The contracts of small functions of the reference: at, Same, power, Trim; and of the law's own: large, spoil, lent, kept. -/
import Derived.Test.YtoifjkandmnakaaTrim
import Derived.Test.YtoifjkandmnakaaPlain
import Derived.RegionTactic
import Derived.Deep.QuietTactic
import Derived.BigQuiet
namespace Go.Proofs.Ytoifjkandmnakaa
open Go.RowKit

/-- a call that returns one value and leaves what was there -/
def RetV (w : World) (v : Value) (e : Ending) (w' : World) : Prop := e = .returned v ∧ Below w.heap.size w w'

/-- a call that returns one value and leaves the world as it is -/
def RetP (w : World) (v : Value) (e : Ending) (w' : World) : Prop := e = .returned v ∧ w = w'

set_option maxHeartbeats 400000 in
theorem at_any (A : Option Addr) (n c : Nat) (f : Nat → Nat) (i : Int) (w : World) (lo hi : Nat) (h : Sq .u32 w lo hi A n f) (hn : n ≤ 1000000) (h0 : 0 ≤ i) (hf : ∀ j, f j ≤ 4294967295) :
    Calls Try.prog 53 #[.slice A n c, .int .i64 i] w (RetP w (.int .u64 (f i.toNat))) := by
  obtain ⟨k, rfl⟩ := Int.eq_ofNat_of_zero_le h0
  rw [Int.toNat_natCast]
  by_cases hk : k < n
  · obtain ⟨b, off, rfl, _, _, hcell⟩ := h.2 (by omega)
    have hc1 := hcell k hk
    obtain ⟨x, hx⟩ : ∃ x, f k = x := ⟨_, rfl⟩
    have hxm := hf k
    rw [hx] at hc1 hxm
    rw [hx]
    clear hx hcell h hf
    go_enter Try.func53, Try.ntmps53
    go_wp2
    go_ret
    exact ⟨rfl, rfl⟩
  · rw [h.1 k (by omega)]
    clear h hf
    go_enter Try.func53, Try.ntmps53
    go_wp2
    go_ret
    exact ⟨rfl, rfl⟩

/-- the cells of a slice of slices -/
def Cs (w : World) (b L : Nat) (A : Nat → Option Addr) (n c : Nat → Nat) : Prop := ∀ i, i < L → w.cell? ⟨b, i, none⟩ = some (.slice (A i) (n i) (c i))

def two {α : Type} (x y : α) : Nat → α := fun i => if i = 0 then x else y

theorem Cs.two_ {w : World} {b n1 n2 c1 c2 : Nat} {A1 A2 : Option Addr} (h0 : w.cell? ⟨b, 0, none⟩ = some (.slice A1 n1 c1)) (h1 : w.cell? ⟨b, 1, none⟩ = some (.slice A2 n2 c2)) : Cs w b 2 (two A1 A2) (two n1 n2) (two c1 c2) := by
  intro i hi
  match i, hi with
  | 0, _ => exact h0
  | 1, _ => exact h1
theorem Cs.one_ {w : World} {b n1 c1 : Nat} {A1 : Option Addr} (h0 : w.cell? ⟨b, 0, none⟩ = some (.slice A1 n1 c1)) : Cs w b 1 (fun _ => A1) (fun _ => n1) (fun _ => c1) := by
  intro i hi
  match i, hi with
  | 0, _ => exact h0

def anyLong (L : Nat) (n : Nat → Nat) : Bool := (List.range L).any fun i => decide (300 < n i)

theorem anyLong_true {L k : Nat} {n : Nat → Nat} (hk : k < L) (h : 300 < n k) : anyLong L n = true := by
  unfold anyLong
  simp only [List.any_eq_true, List.mem_range, decide_eq_true_eq]
  exact ⟨k, hk, h⟩
theorem anyLong_false {L : Nat} {n : Nat → Nat} (h : ∀ k, k < L → n k ≤ 300) : anyLong L n = false := by
  unfold anyLong
  simp only [List.any_eq_false, List.mem_range, decide_eq_true_eq]
  intro k hk
  have := h k hk
  omega

set_option maxHeartbeats 400000 in
theorem large_any (b L : Nat) (A : Nat → Option Addr) (n c : Nat → Nat) (w : World) (h : Cs w b L A n c) (hn : ∀ i, i < L → n i ≤ 9223372036854775807) (hL : L ≤ 8) :
    Calls Try.prog 15 #[.slice (some ⟨b, 0, none⟩) L L] w (RetV w (.bool (anyLong L n))) := by
  go_enter Try.func15, Try.ntmps15
  go_wp2
  go_loop [3] (fun i => ∃ k : Nat, k ≤ L ∧ i = .int .i64 k ∧ (∀ j, j < k → n j ≤ 300)) (fun i => L - (intOf i).toNat)
  case atStart => exact ⟨0, Nat.zero_le _, rfl, fun j hj => absurd hj (Nat.not_lt_zero j)⟩
  case round =>
    obtain ⟨k, hk, rfl, hle⟩ := hrel
    have HL := Lib.hid hle
    clear hle
    by_cases hkL : k < L
    · have hc := h k hkL
      have hnk := hn k hkL
      obtain ⟨x, hx⟩ : ∃ x, n k = x := ⟨_, rfl⟩
      rw [hx] at hc hnk
      have HX := Lib.hid hx
      clear h hn hx
      go_wp2
      · have hlt : (300 : Int) < (x : Int) := by assumption
        go_ret
        exact ⟨by rw [anyLong_true hkL (by rw [HX.out]; omega)]; rfl, Below.refl _ _⟩
      · have hle : (x : Int) ≤ 300 := by assumption
        go_round
        case rel =>
          refine ⟨k + 1, by omega, by go_num, fun j hj => ?_⟩
          rcases Nat.lt_or_ge j k with h | h
          · exact HL.out j h
          · rw [show j = k from by omega, HX.out]; omega
        case measure => simp [intOf]; omega
    · clear h hn
      go_wp2
      go_ret
      exact ⟨by rw [anyLong_false (fun j hj => HL.out j (by omega))]; rfl, Below.refl _ _⟩

set_option maxHeartbeats 400000 in
theorem same0_any (n nb ca cb : Nat) (A B : Option Addr) (a b : Nat → Nat) (w : World) (lo hi lo2 hi2 : Nat) (ha : Sq .u32 w lo hi A n a) (hb : Sq .u32 w lo2 hi2 B nb b) (hn : n ≤ 1000000) (hnb : nb ≤ 1000000) (hhi : hi ≤ w.heap.size) (hhi2 : hi2 ≤ w.heap.size) :
    Calls Try.prog 50 #[.slice A n ca, .slice B nb cb] w (RetV w (.bool (sameB n a nb b))) := by
  by_cases hl : n = nb
  · subst hl
    go_enter Try.func50, Try.ntmps50
    go_wp2
    go_loopw [5] (fun i wr => ∃ k : Nat, k ≤ n ∧ i = .int .i64 k ∧ (∀ j, j < k → a j = b j) ∧ Below w.heap.size w wr) (fun i _ => n - (intOf i).toNat)
    case atStart => exact ⟨0, Nat.zero_le _, rfl, fun j hj => absurd hj (Nat.not_lt_zero j), Below.refl _ _⟩
    case round =>
      obtain ⟨k, hk, rfl, heq, hbel⟩ := hrel
      have HE := Lib.hid heq
      clear heq
      by_cases hkn : k < n
      · obtain ⟨g, off, rfl, _, hg1, hcell⟩ := ha.2 (by omega)
        obtain ⟨g2, off2, rfl, _, hg2, hcell2⟩ := hb.2 (by omega)
        have hc1 := (hbel.cell (p := ⟨g, off + k, none⟩) (by show g < _; omega)).trans (hcell k hkn)
        have hc2 := (hbel.cell (p := ⟨g2, off2 + k, none⟩) (by show g2 < _; omega)).trans (hcell2 k hkn)
        obtain ⟨x, hx⟩ : ∃ x, a k = x := ⟨_, rfl⟩
        obtain ⟨y, hy⟩ : ∃ y, b k = y := ⟨_, rfl⟩
        rw [hx] at hc1
        rw [hy] at hc2
        have HX := Lib.hid hx
        have HY := Lib.hid hy
        clear hx hy hcell hcell2 ha hb
        go_wp2
        go_quiet (fail)
        go_wp2
        · have hne : ((x : Int) != (y : Int)) = true := by assumption
          have hne2 : x ≠ y := by
            intro e
            subst e
            simp at hne
          go_ret
          refine ⟨?_, below_drewN hbel _⟩
          rw [sameB_ne2 hkn (by rw [HX.out, HY.out]; exact hne2)]
          rfl
        · have hne : ((x : Int) != (y : Int)) = false := by assumption
          have hne2 : x = y := by
            have e : (x : Int) = (y : Int) := by simpa using hne
            omega
          go_roundw
          case rel =>
            refine ⟨k + 1, by omega, by go_num, fun j hj => ?_, below_drewN hbel _⟩
            rcases Nat.lt_or_ge j k with h | h
            · exact HE.out j h
            · rw [show j = k from by omega, HX.out, HY.out, hne2]
          case measure => simp [intOf]; omega
      · clear ha hb
        go_wp2
        go_ret
        refine ⟨?_, hbel⟩
        rw [sameB_true.2 ⟨rfl, fun j hj => HE.out j (by omega)⟩]
        rfl
  · rw [sameB_ne1 hl]
    have h1 : ((n : Int) != (nb : Int)) = true := by
      simp only [bne_iff_ne, ne_eq]
      omega
    clear ha hb
    go_enter Try.func50, Try.ntmps50
    go_wp2
    go_ret
    exact ⟨rfl, Below.refl _ _⟩
end Go.Proofs.Ytoifjkandmnakaa
