/- What every law of layer 3 asks first (shown), and the comparison of two lists of words. -/
import Derived.Test.YthepdpfiahcfmaaRFind
import Derived.Test.YthepdpfiahcfmaaRChain
import Derived.Test.YthepdpfiahcfmaaGen
import Derived.Test.YthepdpfiahcfmaaPlain3
import Derived.Test.YthepdpfiahcfmaaPlain
import Derived.Test.YthepdpfiahcfmaaArgs
import Derived.Deep.QuietTactic
import Derived.BigQuiet
namespace Go.Proofs.Ythepdpfiahcfmaa
open Go.RowKit
set_option linter.unusedVariables false

set_option maxHeartbeats 400000 in
theorem samew_any (n nb ca cb : Nat) (A B : Option Addr) (a b : Nat → Nat) (w : World) (lo hi lo2 hi2 : Nat) (ha : Sq .u32 w lo hi A n a) (hb : Sq .u32 w lo2 hi2 B nb b) (hn : n ≤ 1000000) (hnb : nb ≤ 1000000) (hhi : hi ≤ w.heap.size) (hhi2 : hi2 ≤ w.heap.size) :
    Calls Try.prog 15 #[.slice A n ca, .slice B nb cb] w (RetV w (.bool (sameB n a nb b))) := by
  by_cases hl : n = nb
  · subst hl
    go_enter Try.func15, Try.ntmps15
    go_wp2
    go_loopw [5] (fun i wr => ∃ k : Nat, k ≤ n ∧ i = .int .i64 k ∧ (∀ j, j < k → a j = b j) ∧ Below w.heap.size w wr) (fun i _ => n - (intOf i).toNat)
    case atStart => exact ⟨0, Nat.zero_le _, rfl, fun j hj => absurd hj (Nat.not_lt_zero j), Below.refl _ _⟩
    case round =>
      obtain ⟨k, hk, rfl, heq, hbel⟩ := hrel
      have HE := Lib.hid heq
      clear heq
      by_cases hkn : k < n
      · obtain ⟨g, off, rfl, _, hg1, hcell⟩ := ha.2 (by omega)
        obtain ⟨g2, off2, rfl, _, hg2, hcell2⟩ := hb.2 (by omega)
        have hc1 := (hbel.cell (p := ⟨g, off + k, none⟩) (by show g < _; omega)).trans (hcell k hkn)
        have hc2 := (hbel.cell (p := ⟨g2, off2 + k, none⟩) (by show g2 < _; omega)).trans (hcell2 k hkn)
        obtain ⟨x, hx⟩ : ∃ x, a k = x := ⟨_, rfl⟩
        obtain ⟨y, hy⟩ : ∃ y, b k = y := ⟨_, rfl⟩
        rw [hx] at hc1
        rw [hy] at hc2
        have HX := Lib.hid hx
        have HY := Lib.hid hy
        clear hx hy hcell hcell2 ha hb
        go_wp2
        go_quiet (fail)
        go_wp2
        · have hne : ((x : Int) != (y : Int)) = true := by assumption
          have hne2 : x ≠ y := by
            intro e
            subst e
            simp at hne
          go_ret
          refine ⟨?_, below_drewN hbel _⟩
          rw [sameB_ne2 hkn (by rw [HX.out, HY.out]; exact hne2)]
          rfl
        · have hne : ((x : Int) != (y : Int)) = false := by assumption
          have hne2 : x = y := by
            have e : (x : Int) = (y : Int) := by simpa using hne
            omega
          go_roundw
          case rel =>
            refine ⟨k + 1, by omega, by go_num, fun j hj => ?_, below_drewN hbel _⟩
            rcases Nat.lt_or_ge j k with h | h
            · exact HE.out j h
            · rw [show j = k from by omega, HX.out, HY.out, hne2]
          case measure => simp [intOf]; omega
      · clear ha hb
        go_wp2
        go_ret
        refine ⟨?_, hbel⟩
        rw [sameB_true.2 ⟨rfl, fun j hj => HE.out j (by omega)⟩]
        rfl
  · rw [sameB_ne1 hl]
    have h1 : ((n : Int) != (nb : Int)) = true := by
      simp only [bne_iff_ne, ne_eq]
      omega
    clear ha hb
    go_enter Try.func15, Try.ntmps15
    go_wp2
    go_ret
    exact ⟨rfl, Below.refl _ _⟩


theorem np_of {n d : Nat} (h : n % d = 0) (h1 : d ≠ 1) (h2 : d ≠ n) : ¬ Mr.Pr n := fun hp => by
  rcases hp.2 d (Nat.dvd_of_mod_eq_zero h) with h3 | h3
  · exact h1 h3
  · exact h2 h3
theorem sh_pr97 : Mr.Pr 97 := pr_lit (by omega) (by decide)
theorem sh_pr17 : Mr.Pr 17 := pr_lit (by omega) (by decide)
theorem sh_below {v E : Nat} (h : BelowR 100 8 v E) : v = 97 ∧ E = 0 :=
  BelowR.uniq (show BelowR 100 8 97 0 from .inr ⟨by omega, .inl ⟨0, by decide, sh_pr97, fun i hi => absurd hi (Nat.not_lt_zero i), by decide, rfl⟩⟩) h
theorem sh_next {v E : Nat} (h : NextR 18 16 v E) : v = 97 ∧ E = 0 := by
  refine NextR.uniq (show NextR 18 16 97 0 from .inr ⟨by omega, .inl ⟨4, by decide, sh_pr97, fun i hi => ?_, by decide, rfl⟩⟩) h
  rcases (show i = 0 ∨ i = 1 ∨ i = 2 ∨ i = 3 by omega) with rfl | rfl | rfl | rfl
  · exact np_of (d := 3) (by decide) (by decide) (by decide)
  · exact np_of (d := 7) (by decide) (by decide) (by decide)
  · exact np_of (d := 5) (by decide) (by decide) (by decide)
  · exact np_of (d := 9) (by decide) (by decide) (by decide)
instance (p a e : Nat) : Decidable (Mr.U p a e) := by unfold Mr.U; infer_instance
theorem sh_least : Least 17 16 3 := by
  refine ⟨ordr_of (by omega) (by decide) fun q hq hd hu => ?_, by omega, fun u hu ho => ?_⟩
  · have : q = 2 ∨ q = 4 ∨ q = 8 ∨ q = 16 := by
      have h1 := hq.1
      have h2 := Nat.le_of_dvd (by omega) hd
      have h3 := Nat.mod_eq_zero_of_dvd hd
      have : q = 2 ∨ q = 3 ∨ q = 4 ∨ q = 5 ∨ q = 6 ∨ q = 7 ∨ q = 8 ∨ q = 9 ∨ q = 10 ∨ q = 11 ∨ q = 12 ∨ q = 13 ∨ q = 14 ∨ q = 15 ∨ q = 16 := by omega
      rcases this with rfl | rfl | rfl | rfl | rfl | rfl | rfl | rfl | rfl | rfl | rfl | rfl | rfl | rfl | rfl <;> simp at h3 <;> simp
    rcases this with rfl | rfl | rfl | rfl <;> exact absurd hu (by decide)
  · rcases Nat.lt_or_ge u 3 with h1 | h1
    · exfalso
      have : u = 0 ∨ u = 1 ∨ u = 2 := by omega
      rcases this with rfl | rfl | rfl
      · exact absurd ho.2.1 (by decide)
      · have := ho.2.2 1 (by decide)
        exact absurd (Nat.le_of_dvd (by omega) this) (by omega)
      · have := ho.2.2 8 (by decide)
        exact absurd (Nat.le_of_dvd (by omega) this) (by omega)
    · exact h1
theorem sh_gen {v E : Nat} (h : GenR 17 v E) : v = 3 ∧ E = 0 := GenR.uniq (show GenR 17 3 0 from .inr ⟨⟨by omega, sh_pr17⟩, sh_least, rfl⟩) h
theorem sh_plain {v E : Nat} (h : PlR 8 17 3 v E) : v = 4913 ∧ E = 0 := by
  refine PlR.uniq (show PlR 8 17 3 4913 0 from .inr (.inr ⟨fun hb => ?_, by decide, by decide, rfl⟩)) h
  rcases hb with h | h | h | h | h
  · exact absurd h (by decide)
  · exact absurd h (by decide)
  · exact h sh_pr17
  · exact h (by decide)
  · exact absurd h (by decide)
theorem sh_chain {l : List Nat} {E : Nat} (h : ChR 4 16 1 l E) : l = [] ∧ E = 2 := ChR.uniq (show ChR 4 16 1 [] 2 from .inl ⟨.inr (.inr (.inl (by decide))), rfl, rfl⟩) h

set_option maxRecDepth 100000 in
set_option maxHeartbeats 1000000 in
theorem shown_any (w : World) : Calls Try.prog 12 #[] w (RetV w (.bool true)) := by
  have H1 := Lib.hid (pbelow_any 100 8 w (by omega) (by omega))
  have H2 := Lib.hid (fun V => pnext_any 18 16 V (by omega) (by omega))
  have H3 := Lib.hid (fun V => pgen_any 17 V (by omega))
  have H4 := Lib.hid (fun V => pplain_any 8 3 17 V (by omega) (by omega) (by omega))
  have H5 := Lib.hid (fun V => pchain_any 4 1 16 V (by omega) (by omega) (by omega))
  go_enter Try.func12, Try.ntmps12
  go_wp2_with fail
  refine H1.out.mono ?_
  rintro e w1 ⟨v, E, rfl, hr, hb1⟩
  obtain ⟨rfl, rfl⟩ := sh_below hr
  go_wp2_with fail
  refine (H2.out w1).mono ?_
  rintro e w2 ⟨v, E, rfl, hr, hb2'⟩
  obtain ⟨rfl, rfl⟩ := sh_next hr
  have hb2 := hb1.trans (hb2'.mono hb1.size)
  go_wp2_with fail
  refine (H3.out w2).mono ?_
  rintro e w3 ⟨v, E, rfl, hr, hb3'⟩
  obtain ⟨rfl, rfl⟩ := sh_gen hr
  have hb3 := hb2.trans (hb3'.mono hb2.size)
  go_wp2_with fail
  refine (H4.out w3).mono ?_
  rintro e w4 ⟨v, E, rfl, hr, hb4'⟩
  obtain ⟨rfl, rfl⟩ := sh_plain hr
  have hb4 := hb3.trans (hb4'.mono hb3.size)
  go_wp2_with fail
  refine (H5.out w4).mono ?_
  rintro e w5 ⟨A, c, l, E, rfl, hlc, hwl, hr, hb5'⟩
  obtain ⟨rfl, rfl⟩ := sh_chain hr
  have hb5 := hb4.trans (hb5'.mono hb4.size)
  go_wp2_with fail
  go_ret
  exact ⟨rfl, hb5⟩
end Go.Proofs.Ythepdpfiahcfmaa
