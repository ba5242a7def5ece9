/- The contracts of the reference's New and Valid of layer 6. -/
import Derived.Test.YtbajapjaejpcjaaRRoot6
import Derived.Test.YtbajapjaejpcjaaChk6
import Derived.Test.YtbajapjaejpcjaaMap6
namespace Go.Proofs.Ytbajapjaejpcjaa
open Go.RowKit
set_option linter.unusedVariables false

structure Rb (W : World) (b n q ψ : Nat) : Prop where
  cN : W.cell? ⟨b, 0, none⟩ = some (.int .i64 (n : Int))
  cQ : W.cell? ⟨b, 1, none⟩ = some (.int .u32 (q : Int))
  cP : W.cell? ⟨b, 2, none⟩ = some (.int .u32 (ψ : Int))
  lt : b < W.heap.size
theorem Rb.below {W W' : World} {b n q ψ B : Nat} (h : Rb W b n q ψ) (hb : Below B W W') (hB : b < B) : Rb W' b n q ψ :=
  ⟨(hb.cell (p := ⟨b, 0, none⟩) hB).trans h.cN, (hb.cell (p := ⟨b, 1, none⟩) hB).trans h.cQ, (hb.cell (p := ⟨b, 2, none⟩) hB).trans h.cP, Nat.lt_of_lt_of_le h.lt hb.size⟩
def RetRNew (w : World) (n : Int) (q : Nat) (e : Ending) (w' : World) : Prop :=
  Below w.heap.size w w' ∧ ((¬ NewOk n q ∧ e = .returned (.tuple #[.pointer none, .int .i64 2])) ∨
    (NewOk n q ∧ ∃ b ψ : Nat, e = .returned (.tuple #[.pointer (some ⟨b, 0, none⟩), .int .i64 0]) ∧ w.heap.size ≤ b ∧ Least q (2 * n.toNat) ψ ∧ Rb w' b n.toNat q ψ))

theorem rprime5_any (q : Nat) (w : World) (hq : q ≤ 4294967295) : Calls Try.prog 39 #[.int .u32 q] w (RetP w (.bool (prB q))) := by
  have HP := Lib.hid (rprime_any q w hq)
  obtain ⟨b, hb⟩ : ∃ b, prB q = b := ⟨_, rfl⟩
  rw [hb] at HP ⊢
  clear hb
  go_enter Try.func39, Try.ntmps39
  go_wp2_with fail
  (with_reducible refine HP.out.mono ?_)
  rintro e w1 ⟨rfl, hw⟩
  subst hw
  go_wp2_with fail
  go_ret
  exact ⟨rfl, rfl⟩
theorem dim6_boolsn {n : Nat} (hd : dim6 (n : Int)) : ((n : Int) != 2) = false ∨ (((n : Int) != 2) = true ∧ ((n : Int) != 4) = false) ∨ (((n : Int) != 2) = true ∧ ((n : Int) != 4) = true ∧ ((n : Int) != 8) = false) ∨ (((n : Int) != 2) = true ∧ ((n : Int) != 4) = true ∧ ((n : Int) != 8) = true ∧ ((n : Int) != 16) = false) ∨ (((n : Int) != 2) = true ∧ ((n : Int) != 4) = true ∧ ((n : Int) != 8) = true ∧ ((n : Int) != 16) = true ∧ ((n : Int) != 32) = false) := by
  unfold dim6 at hd
  simp only [bne_eq_false_iff_eq, bne_iff_ne, ne_eq]
  omega
theorem newOk_least {n q : Nat} (h : NewOk (n : Int) q) : ∃ ψ, Least q (2 * n) ψ := by
  obtain ⟨hd, hq31, hpr, hmod⟩ := h
  rw [Int.toNat_natCast] at hmod
  have hn : 0 < 2 * n := by unfold dim6 at hd; omega
  have h1 := Nat.div_add_mod q (2 * n)
  exact exists_least hpr hn ⟨q / (2 * n), by omega⟩

set_option maxRecDepth 100000 in
set_option maxHeartbeats 2000000 in
theorem rnew_any (n : Int) (q : Nat) (w : World) (hq : q ≤ 4294967295) : Calls Try.prog 24 #[.int .i64 n, .int .u32 q] w (RetRNew w n q) := by
  by_cases hd : dim6 n
  rotate_left
  · have HN : Hid (¬ NewOk n q) := Lib.hid fun h2 => hd h2.1
    unfold dim6 at hd
    have q1 : (n != 2) = true := by simp; omega
    have q2 : (n != 4) = true := by simp; omega
    have q3 : (n != 8) = true := by simp; omega
    have q4 : (n != 16) = true := by simp; omega
    have q5 : (n != 32) = true := by simp; omega
    clear hd
    go_enter Try.func24, Try.ntmps24
    go_wp2
    go_ret2
    exact ⟨Below.refl _ _, .inl ⟨HN.out, rfl⟩⟩
  obtain ⟨k, rfl, hk2, hk32⟩ := dim6_nat hd
  have hcs := dim6_boolsn hd
  obtain ⟨m, hm⟩ : ∃ m, q % (2 * k) = m := ⟨_, rfl⟩
  have hmi : (q : Int) % (2 * (k : Int)) = (m : Int) := by rw [← hm]; simp
  have hmit : (q : Int).tmod (2 * (k : Int)) = (m : Int) := by rw [Int.tmod_eq_emod_of_nonneg (by omega), hmi]
  have hk0 : ¬ 2 * k = 0 := by omega
  by_cases h : NewOk (k : Int) q
  · have HOK := Lib.hid h
    obtain ⟨ψ, hψ⟩ := newOk_least h
    have HR := Lib.hid (fun V => rroot6_any k q ψ V h hψ)
    obtain ⟨_, hq31, hpr, hmod⟩ := h
    rw [Int.toNat_natCast, hm] at hmod
    have q0 : decide ((q : Int) > 2147483647) = false := decide_eq_false (by omega)
    have q1 : ((m : Int) != 1) = false := by simp; omega
    have HP := Lib.hid (rprime5_any q w hq)
    rw [prB_yes hpr] at HP
    have hψq := hψ.2.1
    have HPSI := Lib.hid hψ
    clear hd hpr hm hψ
    have HMOD := Lib.hid hmod
    clear hmod
    rcases hcs with d1 | ⟨d1, d2⟩ | ⟨d1, d2, d3⟩ | ⟨d1, d2, d3, d4⟩ | ⟨d1, d2, d3, d4, d5⟩
    all_goals
      go_enter Try.func24, Try.ntmps24
      go_wp2_with fail
      (with_reducible refine HP.out.mono ?_)
      rintro e w1 ⟨rfl, hw⟩
      subst hw
      go_wp2_with fail
      (with_reducible refine (HR.out w).mono ?_)
      rintro e w2 ⟨rfl, hw⟩
      subst hw
      go_wp2_with fail
      go_ret2
      refine ⟨(Below.refl _ w).alloc (Nat.le_refl _) _, .inr ⟨HOK.out, w.heap.size, ψ, rfl, Nat.le_refl _, HPSI.out, ?_⟩⟩
      exact ⟨by rw [World.cell?_alloc_new]; rfl, by rw [World.cell?_alloc_new]; rfl, by rw [World.cell?_alloc_new]; rfl, by rw [World.size_alloc]; omega⟩
  · have HN := Lib.hid h
    have hcase : 2147483647 < q ∨ (q ≤ 2147483647 ∧ m ≠ 1) ∨ (q ≤ 2147483647 ∧ m = 1 ∧ ¬ Mr.Pr q) := by
      rcases Nat.lt_or_ge 2147483647 q with h1 | h1
      · exact .inl h1
      · by_cases h3 : m = 1
        · exact .inr (.inr ⟨h1, h3, fun h2 => h ⟨hd, h1, h2, by rw [Int.toNat_natCast, hm, h3]⟩⟩)
        · exact .inr (.inl ⟨h1, h3⟩)
    clear h hd hm
    rcases hcase with h1 | ⟨h1, h2⟩ | ⟨h1, h2, h3⟩
    · have q0 : decide ((q : Int) > 2147483647) = true := decide_eq_true (by omega)
      rcases hcs with d1 | ⟨d1, d2⟩ | ⟨d1, d2, d3⟩ | ⟨d1, d2, d3, d4⟩ | ⟨d1, d2, d3, d4, d5⟩
      all_goals
        go_enter Try.func24, Try.ntmps24
        go_wp2_with fail
        go_ret2
        exact ⟨Below.refl _ _, .inl ⟨HN.out, rfl⟩⟩
    · have q0 : decide ((q : Int) > 2147483647) = false := decide_eq_false (by omega)
      have q1 : ((m : Int) != 1) = true := by simp; omega
      clear h2
      rcases hcs with d1 | ⟨d1, d2⟩ | ⟨d1, d2, d3⟩ | ⟨d1, d2, d3, d4⟩ | ⟨d1, d2, d3, d4, d5⟩
      all_goals
        go_enter Try.func24, Try.ntmps24
        go_wp2_with fail
        go_ret2
        exact ⟨Below.refl _ _, .inl ⟨HN.out, rfl⟩⟩
    · have q0 : decide ((q : Int) > 2147483647) = false := decide_eq_false (by omega)
      have q1 : ((m : Int) != 1) = false := by simp; omega
      have HP := Lib.hid (rprime5_any q w hq)
      rw [prB_no h3] at HP
      have HM := Lib.hid h2
      clear h2 h3
      rcases hcs with d1 | ⟨d1, d2⟩ | ⟨d1, d2, d3⟩ | ⟨d1, d2, d3, d4⟩ | ⟨d1, d2, d3, d4, d5⟩
      all_goals
        go_enter Try.func24, Try.ntmps24
        go_wp2_with fail
        (with_reducible refine HP.out.mono ?_)
        rintro e w1 ⟨rfl, hw⟩
        subst hw
        go_wp2_with fail
        go_ret2
        exact ⟨Below.refl _ _, .inl ⟨HN.out, rfl⟩⟩

/-- a call that says whether C holds -/
def RetB (w : World) (C : Prop) (e : Ending) (w' : World) : Prop := Below w.heap.size w w' ∧ ((C ∧ e = .returned (.bool true)) ∨ (¬ C ∧ e = .returned (.bool false)))
set_option maxHeartbeats 1000000 in
theorem rvalid_any (b n q ψ m c lo hi : Nat) (A : Option Addr) (a : Nat → Nat) (w : World) (ht : Rb w b n q ψ) (hn : n ≤ 32) (hq : q ≤ 2147483647) (ha : Sq .u32 w lo hi A m a) (hm : m ≤ 9223372036854775807) (hab : ∀ i, a i ≤ 4294967295) (hhi : hi ≤ w.heap.size) :
    Calls Try.prog 30 #[.pointer (some ⟨b, 0, none⟩), .slice A m c] w (RetB w (Okl n q m a)) := by
  have HT := Lib.hid ht
  have HA := Lib.hid ha
  have HAB := Lib.hid hab
  clear ht ha hab
  go_enter Try.func30, Try.ntmps30
  go_wp2
  go_loopw [5] (fun I wr => ∃ i : Nat, I = .int .i64 (i : Int) ∧ i ≤ m ∧ i ≤ n ∧ (∀ j, j < i → a j < q) ∧ Below w.heap.size w wr) (fun I _ => n - (intOf I).toNat)
  case atStart => exact ⟨0, rfl, Nat.zero_le _, Nat.zero_le _, fun i hi => absurd hi (Nat.not_lt_zero i), Below.refl _ _⟩
  case round =>
    obtain ⟨i, rfl, him, hin, hlt, hbl⟩ := hrel
    have hT := HT.out.below hbl HT.out.lt
    have c1 := hT.cN
    have c2 := hT.cQ
    have HLT := Lib.hid hlt
    clear hlt hT
    by_cases hi1 : i < m
    · have q1 : decide ((i : Int) < (m : Int)) = true := decide_eq_true (by omega)
      by_cases hi2 : i < n
      · have q2 : decide ((i : Int) < (n : Int)) = true := decide_eq_true (by omega)
        obtain ⟨g, off, rfl, _, hg, hcell⟩ := HA.out.2 (by omega)
        have k1 := (hbl.cell (p := ⟨g, off + i, none⟩) (by show g < _; omega)).trans (hcell i hi1)
        have hxb := HAB.out i
        obtain ⟨x, hx⟩ : ∃ x, a i = x := ⟨_, rfl⟩
        rw [hx] at k1 hxb
        have HX := Lib.hid hx
        clear hx hcell
        by_cases hxq : x < q
        · have q3 : decide ((x : Int) ≥ (q : Int)) = false := decide_eq_false (by omega)
          have q3' : ¬ q ≤ x := by omega
          go_wp2
          go_quiet (fail)
          go_wp2
          go_roundw
          case rel =>
            refine ⟨i + 1, by go_num, hi1, hi2, fun j hj => ?_, below_drewN hbl _⟩
            rcases Nat.lt_or_ge j i with h1 | h1
            · exact HLT.out j h1
            · rw [show j = i by omega, HX.out]; exact hxq
          case measure => simp only [intOf]; omega
        · have q3 : decide ((x : Int) ≥ (q : Int)) = true := decide_eq_true (by omega)
          have q3' : q ≤ x := by omega
          go_wp2
          go_quiet (fail)
          go_wp2
          go_ret
          exact ⟨below_drewN hbl _, .inr ⟨fun h => hxq (by rw [← HX.out]; exact h.2 i hi2), rfl⟩⟩
      · obtain rfl : n = i := by omega
        have q2 : decide ((n : Int) < (n : Int)) = false := decide_eq_false (by omega)
        have q4 : ((m : Int) == (n : Int)) = false := by simp; omega
        go_wp2
        go_ret
        exact ⟨hbl, .inr ⟨fun h => by have := h.1; omega, rfl⟩⟩
    · obtain rfl : m = i := by omega
      have q1 : decide ((m : Int) < (m : Int)) = false := decide_eq_false (by omega)
      by_cases hmn : m = n
      · have q4 : ((m : Int) == (n : Int)) = true := by simp; omega
        have HMN := Lib.hid hmn
        clear hmn
        go_wp2
        go_ret
        exact ⟨hbl, .inl ⟨⟨HMN.out, fun j hj => HLT.out j (by have := HMN.out; omega)⟩, rfl⟩⟩
      · have q4 : ((m : Int) == (n : Int)) = false := by simp; omega
        have HMN := Lib.hid hmn
        clear hmn
        go_wp2
        go_ret
        exact ⟨hbl, .inr ⟨fun h => HMN.out h.1, rfl⟩⟩
end Go.Proofs.Ytbajapjaejpcjaa
