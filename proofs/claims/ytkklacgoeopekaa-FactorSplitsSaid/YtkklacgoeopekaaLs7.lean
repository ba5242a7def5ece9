/- The contract of obscuralaw07.less: whether a list is before another one. -/
import Derived.Test.YtkklacgoeopekaaLx7
namespace Go.Proofs.Ytkklacgoeopekaa
open Go.RowKit
set_option linter.unusedVariables false

def lessL : List Nat → List Nat → Bool
  | x :: a, y :: b => if x = y then lessL a b else decide (x < y)
  | _, _ => false
theorem lessL_of : ∀ a b : List Nat, a.length = b.length → ¬ cmpL b a < 0 → a ≠ b → lessL a b = true
  | [], [], _, _, h => absurd rfl h
  | [], _ :: _, h, _, _ => by simp at h
  | _ :: _, [], h, _, _ => by simp at h
  | x :: a, y :: b, h, hc, hne => by
    rw [cmpL_cons] at hc
    show (if x = y then lessL a b else decide (x < y)) = true
    by_cases h1 : x = y
    · rw [if_pos h1]
      subst h1
      exact lessL_of a b (by simpa using h) (fun h2 => hc (.inr ⟨rfl, h2⟩)) fun e => hne (by rw [e])
    · rw [if_neg h1]
      exact decide_eq_true (by
        rcases Nat.lt_trichotomy x y with h2 | h2 | h2
        · exact h2
        · exact absurd h2 h1
        · exact absurd (.inl h2) hc)
theorem lessL_nil {a b : List Nat} (h : a = [] ∨ b = []) : lessL a b = false := by
  rcases h with rfl | rfl
  · cases b <;> rfl
  · cases a <;> rfl
set_option maxRecDepth 100000 in
set_option maxHeartbeats 4000000 in
theorem less_any (A B : Option Addr) (ca cb : Nat) (a b : List Nat) (w : World) (ha : LS w 0 w.heap.size A a) (hb : LS w 0 w.heap.size B b) (hla : a.length ≤ 1000) (hlb : b.length ≤ 1000) :
    Calls Try.prog 19 #[.slice A a.length ca, .slice B b.length cb] w (fun e w' => e = .returned (.bool (lessL a b)) ∧ ∃ m, w' = w.drewN m) := by
  have HA := Lib.hid ha
  have HB := Lib.hid hb
  clear ha hb
  go_enter Try.func19, Try.ntmps19
  go_wp2
  go_loopw [5] (fun I w' => ∃ k : Nat, I = .int .i64 (k : Int) ∧ k ≤ a.length ∧ k ≤ b.length ∧ lessL (a.drop k) (b.drop k) = lessL a b ∧ ∃ m, w' = w.drewN m) (fun I _ => a.length - (intOf I).toNat)
  case atStart => exact ⟨0, rfl, Nat.zero_le _, Nat.zero_le _, rfl, 0, rfl⟩
  case round =>
    obtain ⟨k, rfl, hka, hkb, hcm, m, rfl⟩ := hrel
    have HCM := Lib.hid hcm
    clear hcm
    by_cases h1 : k < a.length
    · have e1 : decide ((k : Int) < ((a.length : Nat) : Int)) = true := decide_eq_true (by omega)
      by_cases h2 : k < b.length
      · have e2 : decide ((k : Int) < ((b.length : Nat) : Int)) = true := decide_eq_true (by omega)
        obtain ⟨g, o, hA, _, hg, hc⟩ := HA.out.2 (by omega)
        have k1 : w.cell? ⟨g, o + k, none⟩ = some (.int .u32 ((litF a k : Nat) : Int)) := hc k h1
        have HD1 := Lib.hid (drop_at h1)
        obtain ⟨x, hx⟩ : ∃ x, litF a k = x := ⟨_, rfl⟩
        rw [hx] at k1 HD1
        rw [hA]
        have i0 : 0 ≤ (k : Int) := by omega
        have i1 : (k : Int) < ((a.length : Nat) : Int) := by omega
        obtain ⟨g2, o2, hB, _, hg2, hc2⟩ := HB.out.2 (by omega)
        have k2 : w.cell? ⟨g2, o2 + k, none⟩ = some (.int .u32 ((litF b k : Nat) : Int)) := hc2 k h2
        have HD2 := Lib.hid (drop_at h2)
        obtain ⟨y, hy⟩ : ∃ y, litF b k = y := ⟨_, rfl⟩
        rw [hy] at k2 HD2
        rw [hB]
        have i2 : (k : Int) < ((b.length : Nat) : Int) := by omega
        clear hc hx hc2 hy
        by_cases h3 : x = y
        · have e3 : ((x : Int) != (y : Int)) = false := by subst h3; exact bne_self_eq_false _
          go_wp2
          go_quiet (fail)
          go_wp2
          go_roundw
          case rel =>
            refine ⟨k + 1, by go_num, h1, h2, ?_, _, rfl⟩
            rw [← HCM.out, HD1.out, HD2.out]
            show _ = if x = y then _ else _
            rw [if_pos h3]
          case measure => simp only [intOf]; omega
        · have e3 : ((x : Int) != (y : Int)) = true := by rw [bne_iff_ne]; omega
          have e4 : decide ((x : Int) < (y : Int)) = decide (x < y) := by
            by_cases h : x < y
            · rw [decide_eq_true h, decide_eq_true (by omega)]
            · rw [decide_eq_false h, decide_eq_false (by omega)]
          have HV : Hid (lessL a b = decide (x < y)) := Lib.hid (by
            rw [← HCM.out, HD1.out, HD2.out]
            show (if x = y then _ else _) = _
            rw [if_neg h3])
          go_wp2
          go_quiet (fail)
          go_wp2
          go_quiet (fail)
          go_wp2
          go_ret
          exact ⟨by rw [HV.out, ← e4]; rfl, _, by rw [World.drewN_drewN, World.drewN_drewN]⟩
      · have e2 : decide ((k : Int) < ((b.length : Nat) : Int)) = false := decide_eq_false (by omega)
        have HV : Hid (lessL a b = false) := Lib.hid (by
          rw [← HCM.out, List.drop_eq_nil_of_le (by omega : b.length ≤ k)]
          exact lessL_nil (.inr rfl))
        go_wp2
        go_ret
        exact ⟨by rw [HV.out]; rfl, m, rfl⟩
    · have e1 : decide ((k : Int) < ((a.length : Nat) : Int)) = false := decide_eq_false (by omega)
      have HV : Hid (lessL a b = false) := Lib.hid (by
        rw [← HCM.out, List.drop_eq_nil_of_le (by omega : a.length ≤ k)]
        exact lessL_nil (.inl rfl))
      go_wp2
      go_ret
      exact ⟨by rw [HV.out]; rfl, m, rfl⟩
end Go.Proofs.Ytkklacgoeopekaa
