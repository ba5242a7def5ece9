/- The walk of the law ModularPrimes: it returns true. -/
import Derived.Test.YtigefhlgkmfgmaaShown
import Derived.Test.YtigefhlgkmfgmaaArgs
import Derived.Deep.QuietTactic
import Derived.BigQuiet
namespace Go.Proofs.Ytigefhlgkmfgmaa
open Go.RowKit
set_option linter.unusedVariables false

theorem fac_same {N E E' : Nat} {l l' : List (Nat × Nat)} (h : FacR N E l) (h' : FacR N E' l') : l' = l ∧ E' = E := by
  unfold FacR at h h'
  rcases h with ⟨h1, rfl, rfl⟩ | ⟨h1, rfl, h2, _⟩ <;> rcases h' with ⟨g1, rfl, rfl⟩ | ⟨g1, rfl, g2, _⟩
  · exact ⟨rfl, rfl⟩
  · omega
  · omega
  · exact ⟨g2.uniq h2, rfl⟩
theorem fac_len {N E : Nat} {l : List (Nat × Nat)} (h : FacR N E l) : l.length ≤ 40 := by
  rcases h with ⟨_, _, rfl⟩ | ⟨_, _, _, h⟩
  · exact Nat.zero_le _
  · exact h

set_option maxRecDepth 100000 in
set_option maxHeartbeats 1000000 in
theorem modularPrimes_any (n : Nat) (w : World) (hn : n ≤ 4294967295) : Calls Try.prog 3 #[.int .u32 n] w (RetV w (.bool true)) := by
  have H1 := Lib.hid (fun V => factors_any n V hn)
  have H2 := Lib.hid (fun V => rfactors_any n V hn)
  have H3 := Lib.hid (fun V => prime_any n V hn)
  have H4 := Lib.hid (fun V => rprime_any n V hn)
  obtain ⟨b, hb⟩ : ∃ b, prB n = b := ⟨_, rfl⟩
  rw [hb] at H3 H4
  clear hb
  have hbb : (b != b) = false := by cases b <;> rfl
  go_enter Try.func3, Try.ntmps3
  go_wp2_with fail
  (with_reducible refine (H1.out w).mono ?_)
  rintro e w1 ⟨A, c, E, l, rfl, hlc, hpw1, hfr1, hb1⟩
  have HPW1 := Lib.hid hpw1
  have HFR1 := Lib.hid hfr1
  have hl40 := fac_len hfr1
  clear hpw1 hfr1
  go_wp2_with fail
  (with_reducible refine (H2.out w1).mono ?_)
  rintro e w2 ⟨A', c', E', l', rfl, hlc', hpw2, hfr2, hb2⟩
  have HPW2 := Lib.hid hpw2
  obtain ⟨rfl, rfl⟩ := fac_same HFR1.out hfr2
  have hb02 := hb1.trans (hb2.mono hb1.size)
  clear hpw2 hfr2
  go_wp2_with fail
  (with_reducible refine (H3.out w2).mono ?_)
  rintro e w3 ⟨rfl, hb3⟩
  go_wp2_with fail
  (with_reducible refine (H4.out w3).mono ?_)
  rintro e w4 ⟨rfl, hw4⟩
  subst hw4
  have HPW1b := Lib.hid ((HPW1.out.below hb2 (Nat.le_refl _)).below hb3 hb2.size)
  have HPW2b := Lib.hid (HPW2.out.below hb3 (Nat.le_refl _))
  have hz2 := hb2.size
  have hz3 := hb3.size
  have hb03 := hb02.trans (hb3.mono hb02.size)
  clear HPW1 HPW2 H1 H2 H3 H4 HFR1
  go_wp2_with fail
  go_loopw [7] (fun I wr => ∃ i : Nat, I = .int .i64 (i : Int) ∧ i ≤ l'.length ∧ Below w3.heap.size w3 wr) (fun I _ => l'.length - (intOf I).toNat)
  case atStart => exact ⟨0, rfl, Nat.zero_le _, Below.refl _ _⟩
  case round =>
    obtain ⟨i, rfl, hil, hbl⟩ := hrel
    have hzr := hbl.size
    by_cases hin : i < l'.length
    · obtain ⟨b1, rfl, _, hb12, hcell1⟩ := HPW1b.out (by intro e; rw [e] at hin; exact absurd hin (Nat.not_lt_zero i))
      obtain ⟨b2, rfl, _, hb22, hcell2⟩ := HPW2b.out (by intro e; rw [e] at hin; exact absurd hin (Nat.not_lt_zero i))
      obtain ⟨x, hx⟩ : ∃ x, l'[i]? = some x := ⟨l'[i], List.getElem?_eq_getElem hin⟩
      obtain ⟨k1, k2⟩ := hcell1 i x hx
      obtain ⟨k3, k4⟩ := hcell2 i x hx
      have k1 := (hbl.cell (p := ⟨b1, i * 2, none⟩) (by show b1 < _; omega)).trans k1
      have k2 := (hbl.cell (p := ⟨b1, i * 2 + 1, none⟩) (by show b1 < _; omega)).trans k2
      have k3 := (hbl.cell (p := ⟨b2, i * 2, none⟩) (by show b2 < _; omega)).trans k3
      have k4 := (hbl.cell (p := ⟨b2, i * 2 + 1, none⟩) (by show b2 < _; omega)).trans k4
      clear hcell1 hcell2 hx
      obtain ⟨q, e⟩ := x
      simp only at k1 k2 k3 k4
      have hi0 : 0 ≤ (i : Int) := by omega
      have hi1 : (i : Int) < (l'.length : Int) := by omega
      go_wp2_with fail
      go_quiet (fail)
      go_wp2
      go_roundw
      case rel => exact ⟨i + 1, by go_num, hin, below_drewN hbl _⟩
      case measure => simp only [intOf]; omega
    · obtain rfl : i = l'.length := by omega
      go_wp2_with fail
      (with_reducible refine (shown_any wr).mono ?_)
      rintro e w5 ⟨rfl, hb5⟩
      go_wp2_with fail
      go_ret
      exact ⟨rfl, hb03.trans ((hbl.trans (hb5.mono hzr)).mono hb03.size)⟩
end Go.Proofs.Ytigefhlgkmfgmaa
