/- slices.SortFunc(out, slices.Compare) at two lists: the walks. -/
import Derived.Test.YtkklacgoeopekaaSo7
import Derived.Test.YtkklacgoeopekaaBl25
namespace Go.Proofs.Ytkklacgoeopekaa
open Go.RowKit
set_option linter.unusedVariables false

/-- what the sort leaves -/
def Srt (w : World) (g : Nat) (v0 v1 : Value) (z : Int) (w' : World) : Prop :=
  w.grownBy w' (some g) ∧ w'.cell? ⟨g, 0, none⟩ = some (if z < 0 then v1 else v0) ∧ w'.cell? ⟨g, 1, none⟩ = some (if z < 0 then v0 else v1)
def RetSr (w : World) (g : Nat) (v0 v1 : Value) (z : Int) (e : Ending) (w' : World) : Prop := e = .returned (.tuple #[]) ∧ Srt w g v0 v1 z w'
theorem grown_setS (w : World) (a : Addr) (v : Value) : w.grownBy (w.setCell a v) (some a.block) :=
  ⟨rfl, rfl, rfl, by simp [World.setCell], fun k hk hne => Below.heap_setCell _ _ _ _ (fun e => hne (by rw [e]))⟩
theorem grown_drawn (w : World) (g d : Nat) : w.grownBy (w.drewN d) (some g) := ⟨rfl, rfl, rfl, Nat.le_refl _, fun _ _ _ => rfl⟩
theorem grown_drew (w : World) (g : Nat) : w.grownBy w.drew (some g) := ⟨rfl, rfl, rfl, Nat.le_refl _, fun _ _ _ => rfl⟩
theorem grown_tr {a b c : World} {g : Nat} (h : a.grownBy b (some g)) (k : b.grownBy c (some g)) : a.grownBy c (some g) :=
  ⟨k.os.trans h.os, k.tape.trans h.tape, k.output.trans h.output, Nat.le_trans h.size k.size, fun q hq hne => (k.block q (Nat.lt_of_lt_of_le hq h.size) hne).trans (h.block q hq hne)⟩

set_option maxRecDepth 100000 in
set_option maxHeartbeats 40000000 in
theorem ins2_any (g c c0 c1 : Nat) (A0 A1 : Option Addr) (l0 l1 : List Nat) (w : World) (k0 : w.cell? ⟨g, 0, none⟩ = some (.slice A0 l0.length c0)) (k1 : w.cell? ⟨g, 1, none⟩ = some (.slice A1 l1.length c1))
    (f0 : w.frozen? ⟨g, 0, none⟩ = false) (f1 : w.frozen? ⟨g, 1, none⟩ = false) (h0 : LS w 0 w.heap.size A0 l0) (h1 : LS w 0 w.heap.size A1 l1) (b0 : l0.length ≤ 1000) (b1 : l1.length ≤ 1000) :
    Calls Try.prog 69 #[.slice (some ⟨g, 0, none⟩) 2 c, .int .i64 0, .int .i64 2, .func (.func 33) #[] #[]] w (RetSr w g (.slice A0 l0.length c0) (.slice A1 l1.length c1) (cmpL l1 l0)) := by
  have HC := Lib.hid (fun d : Nat => comp_any A1 A0 c1 c0 l1 l0 (w.drewN d) h1 h0 b1 b0)
  clear h0 h1
  obtain ⟨z, hz⟩ : ∃ z, cmpL l1 l0 = z := ⟨_, rfl⟩
  rw [hz] at HC ⊢
  clear hz
  go_enter Try.func69, Try.ntmps69
  go_wp2
  go_loopw [8] (fun I w' => (I = .int .i64 1 ∧ w = w') ∨ (I = .int .i64 2 ∧ Srt w g (.slice A0 l0.length c0) (.slice A1 l1.length c1) z w')) (fun I _ => (2 - intOf I).toNat)
  case atStart => exact .inl ⟨rfl, by trivial⟩
  case round =>
    rcases hrel with ⟨rfl, rfl⟩ | ⟨rfl, hs⟩
    rotate_left
    · have HS := Lib.hid hs
      clear hs
      go_wp2
      go_end0
      exact ⟨rfl, HS.out⟩
    go_wp2
    go_loopw [9] (fun J w' => (J = .int .i64 1 ∧ w = w') ∨ (J = .int .i64 0 ∧ Srt w g (.slice A0 l0.length c0) (.slice A1 l1.length c1) z w')) (fun J _ => (intOf J).toNat)
    case atStart => exact .inl ⟨rfl, by trivial⟩
    case round =>
      rcases hrel with ⟨rfl, rfl⟩ | ⟨rfl, hs⟩
      rotate_left
      · have HS := Lib.hid hs
        clear hs
        go_wp2
        go_quiet (fail)
        go_wp2
        go_roundw
        case rel => exact .inr ⟨rfl, grown_tr HS.out.1 (grown_drawn _ g _), HS.out.2.1, HS.out.2.2⟩
        case measure => simp only [intOf]; omega
      by_cases hz : z < 0
      · have e1 : decide (z < 0) = true := decide_eq_true hz
        have HZ := Lib.hid hz
        clear hz
        go_wp2
        go_quiet ((exact (HC.out _).mono fun e w' hh => ⟨hh.1, _, hh.2.symm⟩))
        go_wp2
        generalize hq : w.drewN _ = wq
        have q0 : wq.cell? ⟨g, 0, none⟩ = some (.slice A0 l0.length c0) := by rw [← hq]; exact k0
        have q1 : wq.cell? ⟨g, 1, none⟩ = some (.slice A1 l1.length c1) := by rw [← hq]; exact k1
        have p0 : wq.frozen? ⟨g, 0, none⟩ = false := by rw [← hq]; exact f0
        have p1 : wq.frozen? ⟨g, 1, none⟩ = false := by rw [← hq]; exact f1
        have HG : Hid (w.grownBy wq (some g)) := Lib.hid (by rw [← hq]; exact grown_drawn _ g _)
        clear hq k0 k1 f0 f1 HC
        go_region
        go_wp2
        go_roundw
        case rel =>
          refine .inr ⟨rfl, grown_tr HG.out (grown_tr (grown_setS wq ⟨g, 1, none⟩ _) (grown_tr (grown_setS _ ⟨g, 0, none⟩ _) (grown_drew _ g))), ?_, ?_⟩
          · rw [if_pos HZ.out]; simp [go_sem, q0]
          · rw [if_pos HZ.out]; simp [go_sem, q1]
        case measure => simp only [intOf]; omega
      · have e1 : decide (z < 0) = false := decide_eq_false hz
        have HZ := Lib.hid hz
        clear hz
        go_wp2
        go_quiet ((exact (HC.out _).mono fun e w' hh => ⟨hh.1, _, hh.2.symm⟩))
        go_wp2
        go_roundw
        case rel => exact .inr ⟨rfl, grown_drawn _ g _, by rw [if_neg (show ¬ z < 0 by have := HZ.out; omega)]; exact k0, by rw [if_neg (show ¬ z < 0 by have := HZ.out; omega)]; exact k1⟩
        case measure => simp only [intOf]; omega

set_option maxRecDepth 100000 in
set_option maxHeartbeats 40000000 in
theorem pdq2_any (g c c0 c1 : Nat) (lim : Int) (A0 A1 : Option Addr) (l0 l1 : List Nat) (w : World) (k0 : w.cell? ⟨g, 0, none⟩ = some (.slice A0 l0.length c0)) (k1 : w.cell? ⟨g, 1, none⟩ = some (.slice A1 l1.length c1))
    (f0 : w.frozen? ⟨g, 0, none⟩ = false) (f1 : w.frozen? ⟨g, 1, none⟩ = false) (h0 : LS w 0 w.heap.size A0 l0) (h1 : LS w 0 w.heap.size A1 l1) (b0 : l0.length ≤ 1000) (b1 : l1.length ≤ 1000) :
    Calls Try.prog 57 #[.slice (some ⟨g, 0, none⟩) 2 c, .int .i64 0, .int .i64 2, .int .i64 lim, .func (.func 33) #[] #[]] w (RetSr w g (.slice A0 l0.length c0) (.slice A1 l1.length c1) (cmpL l1 l0)) := by
  have HI := Lib.hid (ins2_any g c c0 c1 A0 A1 l0 l1 w k0 k1 f0 f1 h0 h1 b0 b1)
  clear h0 h1 k0 k1 f0 f1
  go_enter Try.func57, Try.ntmps57
  go_wp2
  go_loopw [1, 2] (fun A B w' => A = .int .i64 0 ∧ B = .int .i64 2 ∧ w = w') (fun _ _ _ => 0)
  case atStart => exact ⟨rfl, rfl, by trivial⟩
  case round =>
    obtain ⟨rfl, rfl, rfl⟩ := hrel
    go_wp2_with fail
    refine HI.out.mono ?_
    rintro e w1 ⟨rfl, hs⟩
    have HS := Lib.hid hs
    clear hs
    go_wp2
    go_end0
    exact ⟨rfl, HS.out⟩
set_option maxRecDepth 100000 in
set_option maxHeartbeats 40000000 in
theorem sort2_any (g c c0 c1 : Nat) (A0 A1 : Option Addr) (l0 l1 : List Nat) (w : World) (k0 : w.cell? ⟨g, 0, none⟩ = some (.slice A0 l0.length c0)) (k1 : w.cell? ⟨g, 1, none⟩ = some (.slice A1 l1.length c1))
    (f0 : w.frozen? ⟨g, 0, none⟩ = false) (f1 : w.frozen? ⟨g, 1, none⟩ = false) (h0 : LS w 0 w.heap.size A0 l0) (h1 : LS w 0 w.heap.size A1 l1) (b0 : l0.length ≤ 1000) (b1 : l1.length ≤ 1000) :
    Calls Try.prog 32 #[.slice (some ⟨g, 0, none⟩) 2 c, .func (.func 33) #[] #[]] w (RetSr w g (.slice A0 l0.length c0) (.slice A1 l1.length c1) (cmpL l1 l0)) := by
  have HP := Lib.hid (fun lim => pdq2_any g c c0 c1 lim A0 A1 l0 l1 w k0 k1 f0 f1 h0 h1 b0 b1)
  have HL := Lib.hid (bitsLen_any 2 w (by omega))
  clear h0 h1 k0 k1 f0 f1
  go_enter Try.func32, Try.ntmps32
  go_wp2_with (go_at_call 58; refine HL.out.mono ?_; rintro e w' ⟨rfl, hw⟩; subst hw)
  refine (HP.out _).mono ?_
  rintro e w1 ⟨rfl, hs⟩
  have HS := Lib.hid hs
  clear hs
  go_wp2
  go_end0
  exact ⟨rfl, HS.out⟩
end Go.Proofs.Ytkklacgoeopekaa
