/- The contract of the table's check. -/
import Derived.Test.YtbajapjaejpcjaaTab
namespace Go.Proofs.Ytbajapjaejpcjaa
open Go.RowKit
set_option linter.unusedVariables false

/-- the cells of a slice of slices -/
def Cs (w : World) (b L : Nat) (A : Nat → Option Addr) (n c : Nat → Nat) : Prop := ∀ i, i < L → w.cell? ⟨b, i, none⟩ = some (.slice (A i) (n i) (c i))

def two {α : Type} (x y : α) : Nat → α := fun i => if i = 0 then x else y

theorem Cs.two_ {w : World} {b n1 n2 c1 c2 : Nat} {A1 A2 : Option Addr} (h0 : w.cell? ⟨b, 0, none⟩ = some (.slice A1 n1 c1)) (h1 : w.cell? ⟨b, 1, none⟩ = some (.slice A2 n2 c2)) : Cs w b 2 (two A1 A2) (two n1 n2) (two c1 c2) := by
  intro i hi
  match i, hi with
  | 0, _ => exact h0
  | 1, _ => exact h1
theorem Cs.one_ {w : World} {b n1 c1 : Nat} {A1 : Option Addr} (h0 : w.cell? ⟨b, 0, none⟩ = some (.slice A1 n1 c1)) : Cs w b 1 (fun _ => A1) (fun _ => n1) (fun _ => c1) := by
  intro i hi
  match i, hi with
  | 0, _ => exact h0


/-- every list has n elements, all below q -/
def Ok6 (n q L : Nat) (nn : Nat → Nat) (f : Nat → Nat → Nat) : Prop := ∀ i, i < L → nn i = n ∧ ∀ j, j < n → f i j < q
def RetChk (w : World) (C : Prop) (e : Ending) (w' : World) : Prop := w = w' ∧ ((C ∧ e = .returned (.int .i64 0)) ∨ (¬ C ∧ e = .returned (.int .i64 2)))

set_option maxRecDepth 100000 in
set_option maxHeartbeats 1000000 in
theorem tcheck_any (b n q s b0 L : Nat) (P : Nat → Nat) (A : Nat → Option Addr) (nn c : Nat → Nat) (f : Nat → Nat → Nat) (lo hi : Nat) (w : World) (h : Tb w b n q P s) (hn : 1 ≤ n) (hn2 : n ≤ 32) (hq : q ≤ 2147483647) (hcs : Cs w b0 L A nn c) (hsq : ∀ i, i < L → Sq .u32 w lo hi (A i) (nn i) (f i)) (hnn : ∀ i, i < L → nn i ≤ 9223372036854775807) (hf : ∀ i j, f i j ≤ 4294967295) (hL : L ≤ 2) (c0 : Nat) :
    Calls Try.prog 25 #[.pointer (some ⟨b, 0, none⟩), .slice (some ⟨b0, 0, none⟩) L c0] w (RetChk w (Ok6 n q L nn f)) := by
  have c1 := h.cN
  have c2 := h.cQ
  have HI := Lib.hid (tis_yes b n w c1 hn)
  have HCS := Lib.hid hcs
  have HSQ := Lib.hid hsq
  have HNN := Lib.hid hnn
  have HF := Lib.hid hf
  clear h hcs hsq hnn hf
  go_enter Try.func25, Try.ntmps25
  go_wp2_with fail
  (with_reducible refine HI.out.mono ?_)
  rintro e w1 ⟨rfl, hw1⟩
  subst hw1
  go_wp2_with fail
  go_loop [14] (fun I => ∃ i : Nat, I = .int .i64 (i : Int) ∧ i ≤ L ∧ Ok6 n q i nn f) (fun I => L - (intOf I).toNat)
  case atStart => exact ⟨0, rfl, Nat.zero_le _, fun i hi => absurd hi (Nat.not_lt_zero i)⟩
  case round =>
    obtain ⟨i, rfl, hiL, hok⟩ := hrel
    have HOK := Lib.hid hok
    clear hok
    by_cases hin : i < L
    · have k1 := HCS.out i hin
      have hnb := HNN.out i hin
      obtain ⟨m, hm⟩ : ∃ m, nn i = m := ⟨_, rfl⟩
      rw [hm] at k1 hnb
      have HM := Lib.hid hm
      clear hm
      by_cases hmn : m = n
      · subst hmn
        have q1 : ((m : Int) != (m : Int)) = false := by simp
        go_wp2_with fail
        go_loop [27] (fun J => ∃ j : Nat, J = .int .i64 (j : Int) ∧ j ≤ m ∧ ∀ j', j' < j → f i j' < q) (fun J => m - (intOf J).toNat)
        case atStart => exact ⟨0, rfl, Nat.zero_le _, fun i hi => absurd hi (Nat.not_lt_zero i)⟩
        case round =>
          obtain ⟨j, rfl, hjm, hlt⟩ := hrel
          have HLT := Lib.hid hlt
          clear hlt
          by_cases hjn : j < m
          · obtain ⟨g, off, hA, _, _, hcell⟩ := (HSQ.out i hin).2 (by rw [HM.out]; omega)
            have k2 := hcell j (by rw [HM.out]; exact hjn)
            obtain ⟨x, hx⟩ : ∃ x, f i j = x := ⟨_, rfl⟩
            have hxb := HF.out i j
            rw [hx] at k2 hxb
            rw [hA] at k1
            have HX := Lib.hid hx
            have HA := Lib.hid hA
            have hAe : A i = some ⟨g, off, none⟩ := hA
            clear hcell hx hA
            by_cases hxq : x < q
            · have q2 : decide ((x : Int) ≥ (q : Int)) = false := decide_eq_false (by omega)
              have q2' : ¬ q ≤ x := by omega
              go_wp2
              go_round
              case rel =>
                refine ⟨j + 1, by go_num, hjn, fun j' hj' => ?_⟩
                rcases Nat.lt_or_ge j' j with h1 | h1
                · exact HLT.out j' h1
                · rw [show j' = j by omega, HX.out]; exact hxq
              case measure => simp only [intOf]; omega
            · have q2 : decide ((x : Int) ≥ (q : Int)) = true := decide_eq_true (by omega)
              have q2' : q ≤ x := by omega
              go_wp2
              go_ret
              exact ⟨rfl, .inr ⟨fun h => hxq (by rw [← HX.out]; exact (h i hin).2 j hjn), rfl⟩⟩
          · go_wp2
            go_round
            case rel =>
              refine ⟨i + 1, by go_num, hin, fun i' hi' => ?_⟩
              rcases Nat.lt_or_ge i' i with h1 | h1
              · exact HOK.out i' h1
              · rw [show i' = i by omega]
                exact ⟨HM.out, fun j' hj' => HLT.out j' (by omega)⟩
            case measure => simp only [intOf]; omega
      · have q1 : ((m : Int) != (n : Int)) = true := by simp; omega
        have HMN := Lib.hid hmn
        clear hmn
        go_wp2
        go_ret
        exact ⟨rfl, .inr ⟨fun h => HMN.out (by rw [← HM.out]; exact (h i hin).1), rfl⟩⟩
    · obtain rfl : i = L := by omega
      go_wp2
      go_ret
      exact ⟨rfl, .inl ⟨HOK.out, rfl⟩⟩
end Go.Proofs.Ytbajapjaejpcjaa
