/- slices.SortFunc at two lists, with slices.Compare. -/
import Derived.Test.YtkklacgoeopekaaCh7
namespace Go.Proofs.Ytkklacgoeopekaa
open Go.RowKit
set_option linter.unusedVariables false

def cmpN (x y : Nat) : Int := if x < y then -1 else if y < x then 1 else 0
def cmpL : List Nat → List Nat → Int
  | [], [] => 0
  | [], _ :: _ => -1
  | _ :: _, [] => 1
  | x :: a, y :: b => if cmpN x y ≠ 0 then cmpN x y else cmpL a b
theorem nan_any (x : Int) (w : World) : Calls Try.prog 79 #[.int .u32 x] w (RetP w (.bool false)) := by
  have e1 : (x != x) = false := by simp
  go_enter Try.func79, Try.ntmps79
  go_wp2
  go_ret
  exact ⟨by simp, rfl⟩
theorem cmp_any (x y : Nat) (w : World) : Calls Try.prog 59 #[.int .u32 x, .int .u32 y] w (RetP w (.int .i64 (cmpN x y))) := by
  have HN := Lib.hid nan_any
  have HC : Hid (cmpN x y = if x < y then -1 else if y < x then 1 else 0) := Lib.hid rfl
  by_cases h1 : x < y
  · have e1 : decide ((x : Int) < (y : Int)) = true := decide_eq_true (by omega)
    have HV : Hid (cmpN x y = -1) := Lib.hid (by rw [HC.out, if_pos h1])
    go_enter Try.func59, Try.ntmps59
    go_wp2_with (go_at_call 79; refine (HN.out _ _).mono ?_; rintro e w' ⟨rfl, hw⟩; subst hw)
    go_ret
    exact ⟨by rw [HV.out]; rfl, rfl⟩
  · have e1 : decide ((x : Int) < (y : Int)) = false := decide_eq_false (by omega)
    by_cases h2 : y < x
    · have e2 : decide ((x : Int) > (y : Int)) = true := decide_eq_true (by omega)
      have e3 : decide (y < x) = true := decide_eq_true h2
      have HV : Hid (cmpN x y = 1) := Lib.hid (by rw [HC.out, if_neg h1, if_pos h2])
      go_enter Try.func59, Try.ntmps59
      go_wp2_with (go_at_call 79; refine (HN.out _ _).mono ?_; rintro e w' ⟨rfl, hw⟩; subst hw)
      go_ret
      exact ⟨by rw [HV.out]; rfl, rfl⟩
    · have e2 : decide ((x : Int) > (y : Int)) = false := decide_eq_false (by omega)
      have e3 : decide (y < x) = false := decide_eq_false h2
      have HV : Hid (cmpN x y = 0) := Lib.hid (by rw [HC.out, if_neg h1, if_neg h2])
      go_enter Try.func59, Try.ntmps59
      go_wp2_with (go_at_call 79; refine (HN.out _ _).mono ?_; rintro e w' ⟨rfl, hw⟩; subst hw)
      go_ret
      exact ⟨by rw [HV.out]; rfl, rfl⟩
theorem drop_at {l : List Nat} {k : Nat} (h : k < l.length) : l.drop k = litF l k :: l.drop (k + 1) := by
  rw [List.drop_eq_getElem_cons h]
  congr 1
  unfold litF
  rw [List.getD_eq_getElem?_getD, List.getElem?_eq_getElem h]
  rfl
set_option maxRecDepth 100000 in
set_option maxHeartbeats 4000000 in
theorem comp_any (A B : Option Addr) (ca cb : Nat) (a b : List Nat) (w : World) (ha : LS w 0 w.heap.size A a) (hb : LS w 0 w.heap.size B b) (hla : a.length ≤ 1000) (hlb : b.length ≤ 1000) :
    Calls Try.prog 33 #[.slice A a.length ca, .slice B b.length cb] w (RetP w (.int .i64 (cmpL a b))) := by
  have HA := Lib.hid ha
  have HB := Lib.hid hb
  clear ha hb
  go_enter Try.func33, Try.ntmps33
  go_wp2
  go_loopw [11] (fun I w' => ∃ k : Nat, I = .int .i64 (k : Int) ∧ k ≤ a.length ∧ k ≤ b.length ∧ cmpL (a.drop k) (b.drop k) = cmpL a b ∧ w' = w) (fun I _ => a.length - (intOf I).toNat)
  case atStart => exact ⟨0, rfl, Nat.zero_le _, Nat.zero_le _, rfl, by trivial⟩
  case round =>
    obtain ⟨k, rfl, hka, hkb, hcm, rfl⟩ := hrel
    have HCM := Lib.hid hcm
    clear hcm
    by_cases h1 : k < a.length
    · have e1 : decide ((k : Int) < ((a.length : Nat) : Int)) = true := decide_eq_true (by omega)
      obtain ⟨g, o, hA, _, hg, hc⟩ := HA.out.2 (by omega)
      have k1 := hc k h1
      have HD1 := Lib.hid (drop_at h1)
      obtain ⟨x, hx⟩ : ∃ x, litF a k = x := ⟨_, rfl⟩
      rw [hx] at k1 HD1
      rw [hA]
      have i0 : 0 ≤ (k : Int) := by omega
      have i1 : (k : Int) < ((a.length : Nat) : Int) := by omega
      clear hc hx
      by_cases h2 : k < b.length
      · have e2 : decide ((k : Int) ≥ ((b.length : Nat) : Int)) = false := decide_eq_false (by omega)
        have e3 : decide (((b.length : Nat) : Int) ≤ (k : Int)) = false := decide_eq_false (by omega)
        have e4 : decide (b.length ≤ k) = false := decide_eq_false (by omega)
        obtain ⟨g2, o2, hB, _, hg2, hc2⟩ := HB.out.2 (by omega)
        have k2 := hc2 k h2
        have HD2 := Lib.hid (drop_at h2)
        obtain ⟨y, hy⟩ : ∃ y, litF b k = y := ⟨_, rfl⟩
        rw [hy] at k2 HD2
        rw [hB]
        have i2 : (k : Int) < ((b.length : Nat) : Int) := by omega
        clear hc2 hy
        have HC := Lib.hid (fun W : World => cmp_any x y W)
        obtain ⟨z, hz⟩ : ∃ z, cmpN x y = z := ⟨_, rfl⟩
        have HZ := Lib.hid hz
        rw [hz] at HC
        clear hz
        by_cases h3 : z = 0
        · subst h3
          go_wp2_with (go_at_call 59; refine (HC.out _).mono ?_; rintro e w' ⟨rfl, hw⟩; subst hw)
          go_roundw
          case rel =>
            refine ⟨k + 1, by go_num, h1, h2, ?_, by trivial⟩
            rw [← HCM.out, HD1.out, HD2.out]
            show _ = (if cmpN x y ≠ 0 then cmpN x y else cmpL _ _)
            rw [HZ.out, if_neg (by omega)]
          case measure => simp only [intOf]; omega
        · have e5 : (z != 0) = true := by rw [bne_iff_ne]; exact h3
          have HV : Hid (cmpL a b = z) := Lib.hid (by
            rw [← HCM.out, HD1.out, HD2.out]
            show (if cmpN x y ≠ 0 then cmpN x y else cmpL _ _) = z
            rw [HZ.out, if_pos h3])
          have h3' : ¬ z = 0 := h3
          go_wp2_with (go_at_call 59; refine (HC.out _).mono ?_; rintro e w' ⟨rfl, hw⟩; subst hw)
          go_ret
          exact ⟨by rw [HV.out]; rfl, by trivial⟩
      · have e2 : decide ((k : Int) ≥ ((b.length : Nat) : Int)) = true := decide_eq_true (by omega)
        have e3 : decide (((b.length : Nat) : Int) ≤ (k : Int)) = true := decide_eq_true (by omega)
        have e4 : decide (b.length ≤ k) = true := decide_eq_true (by omega)
        have HV : Hid (cmpL a b = 1) := Lib.hid (by
          rw [← HCM.out, HD1.out, List.drop_eq_nil_of_le (by omega : b.length ≤ k)]
          rfl)
        go_wp2
        go_ret
        exact ⟨by rw [HV.out]; rfl, by trivial⟩
    · have hk : k = a.length := by omega
      have e1 : decide ((k : Int) < ((a.length : Nat) : Int)) = false := decide_eq_false (by omega)
      by_cases h2 : a.length < b.length
      · have e2 : decide (((a.length : Nat) : Int) < ((b.length : Nat) : Int)) = true := decide_eq_true (by omega)
        have HV : Hid (cmpL a b = -1) := Lib.hid (by
          rw [← HCM.out, List.drop_eq_nil_of_le (by omega : a.length ≤ k), drop_at (show k < b.length by omega)]
          rfl)
        go_wp2
        go_ret
        exact ⟨by rw [HV.out]; rfl, by trivial⟩
      · have e2 : decide (((a.length : Nat) : Int) < ((b.length : Nat) : Int)) = false := decide_eq_false (by omega)
        have HV : Hid (cmpL a b = 0) := Lib.hid (by
          rw [← HCM.out, List.drop_eq_nil_of_le (by omega : a.length ≤ k), List.drop_eq_nil_of_le (by omega : b.length ≤ k)]
          rfl)
        go_wp2
        go_ret
        exact ⟨by rw [HV.out]; rfl, by trivial⟩
end Go.Proofs.Ytkklacgoeopekaa
