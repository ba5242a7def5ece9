/- The contracts of Moves, the program's and the reference's. -/
/- The contract of Moves. -/
import Derived.Test.YtcnkddoipmaddaaDec8
import Derived.Test.YtcnkddoipmaddaaRDec8
import Derived.Test.YtcnkddoipmaddaaRRoot7
import Derived.Test.YtcnkddoipmaddaaEnc8
import Derived.BigRegion
namespace Go.Proofs.Ytcnkddoipmaddaa
open Go.RowKit
set_option linter.unusedVariables false

theorem eints : ElemOf Try.prog 43 3 .i64 8 := ⟨Try.underlying43, by kernel_rfl⟩
/-- which automorphisms there are -/
def MvOk (n : Nat) (k : Int) : Prop := 1 ≤ k ∧ k < 2 * n ∧ k % 2 = 1
def movZ (n : Nat) (k : Int) (j : Nat) : Int := ((movN n k.toNat j : Nat) : Int)

theorem moves8_nil (k : Value) (w : World) : Calls Try.prog 24 #[.pointer none, k] w (RetP w (.tuple #[.slice none 0 0, .int .i64 1])) := by
  go_enter Try.func24, Try.ntmps24
  go_wp2
  go_ret2
  exact ⟨rfl, rfl⟩
theorem moves8_zero (b : Nat) (k : Value) (w : World) (h : w.cell? ⟨b, 0, none⟩ = some (.int .i64 0)) : Calls Try.prog 24 #[.pointer (some ⟨b, 0, none⟩), k] w (RetP w (.tuple #[.slice none 0 0, .int .i64 1])) := by
  go_enter Try.func24, Try.ntmps24
  go_wp2
  go_ret2
  exact ⟨rfl, rfl⟩

set_option maxRecDepth 100000 in
set_option maxHeartbeats 2000000 in
theorem rmoves8_any (lo b n p R x : Nat) (k : Int) (w : World) (h : Rz w lo b n p R x) (hd : dim8 n) (hk1 : -9223372036854775808 ≤ k) (hk2 : k ≤ 9223372036854775807) :
    Calls Try.prog 26 #[.pointer (some ⟨b, 0, none⟩), .int .i64 k] w (RetDc w (MvOk n k) n (movZ n k)) := by
  have hn4 : 4 ≤ n ∧ n ≤ 32 := by unfold dim8 at hd; omega
  obtain ⟨hn4, hn32⟩ := hn4
  have HD := Lib.hid hd
  have HS := Lib.hid h
  have k0 := h.cN
  clear h hd
  by_cases hok : MvOk n k
  rotate_left
  · have HN := Lib.hid hok
    have hc : k < 1 ∨ (1 ≤ k ∧ 2 * (n : Int) - 1 < k) ∨ (1 ≤ k ∧ k ≤ 2 * (n : Int) - 1 ∧ k.tmod 2 ≠ 1) := by
      unfold MvOk at hok
      have h1 : 1 ≤ k → k.tmod 2 = k % 2 := fun h => Int.tmod_eq_emod_of_nonneg (by omega)
      by_cases h2 : k < 1
      · exact .inl h2
      · have := h1 (by omega)
        omega
    clear hok
    rcases hc with h1 | ⟨h1, h2⟩ | ⟨h1, h2, h3⟩
    all_goals
      try first
        | have d1 : decide (k < 1) = true := decide_eq_true (by omega)
        | have d1 : decide (k < 1) = false := decide_eq_false (by omega)
      try first
        | have d2 : decide (k > 2 * (n : Int) - 1) = true := decide_eq_true (by omega)
        | have d2 : decide (k > 2 * (n : Int) - 1) = false := decide_eq_false (by omega)
      try first
        | have d4 : decide (2 * (n : Int) - 1 < k) = true := decide_eq_true (by omega)
        | have d4 : decide (2 * (n : Int) - 1 < k) = false := decide_eq_false (by omega)
      try first
        | have d5 : decide (2 * (n : Int) < k + 1) = true := decide_eq_true (by omega)
        | have d5 : decide (2 * (n : Int) < k + 1) = false := decide_eq_false (by omega)
      try first
        | have d6 : decide (2 * (n : Int) ≤ k) = true := decide_eq_true (by omega)
        | have d6 : decide (2 * (n : Int) ≤ k) = false := decide_eq_false (by omega)
      try have d7 : (k % 2 != 1) = true := by have : k.tmod 2 = k % 2 := Int.tmod_eq_emod_of_nonneg (by omega)
                                              simp; omega
      try have d3 : (k.tmod 2 != 1) = true := by simp; omega
      go_enter Try.func26, Try.ntmps26
      go_wp2
      go_ret2
      exact ⟨Below.refl _ _, .inl ⟨HN.out, rfl⟩⟩
  have HOK := Lib.hid hok
  obtain ⟨g1, g2, g3⟩ := hok
  obtain ⟨k, rfl⟩ : ∃ K : Nat, k = (K : Int) := ⟨k.toNat, by omega⟩
  have d1 : decide ((k : Int) < 1) = false := decide_eq_false (by omega)
  have d2 : decide ((k : Int) > 2 * (n : Int) - 1) = false := decide_eq_false (by omega)
  have d4 : decide (2 * (n : Int) - 1 < (k : Int)) = false := decide_eq_false (by omega)
  have d5 : decide (2 * (n : Int) < (k : Int) + 1) = false := decide_eq_false (by omega)
  have d6 : decide (2 * (n : Int) ≤ (k : Int)) = false := decide_eq_false (by omega)
  have hkt : (k : Int).tmod 2 = 1 := by rw [Int.tmod_eq_emod_of_nonneg (by omega)]; exact g3
  have hko : k % 2 = 1 := by omega
  have hn0 : ¬ n = 0 := by omega
  have HKO := Lib.hid hko
  have hkb : k < 64 := by omega
  clear g1 g2 hko
  go_enter Try.func26, Try.ntmps26
  go_wp2
  clear g3
  go_loopw [6, 7] (fun O J wr => ∃ (j : Nat) (A2 : Option Addr) (c2 : Nat), j ≤ n ∧ J = .int .i64 (j : Int) ∧ O = .slice A2 j c2 ∧ Z.Own .i64 wr w.heap.size 3 A2 j c2 (trZ j (movZ n (k : Int))) ∧ Below w.heap.size w wr) (fun _ J _ => n - (intOf J).toNat)
  case atStart => exact ⟨0, none, 0, Nat.zero_le _, rfl, rfl, Z.Own.congr (Z.Own.nil _ _ _ _) (fun j => (if_neg (by omega)).symm), Below.refl _ _⟩
  case round =>
    obtain ⟨j, A2, c2, hj, rfl, rfl, hown, hbl⟩ := hrel
    have HOWN := Lib.hid hown
    have HBE := Lib.hid hbl
    have k0 := (HS.out.below hbl (Nat.le_refl _)).cN
    have hzr := hbl.size
    clear hown
    by_cases hjn : j < n
    · have e1 : decide ((j : Int) < (n : Int)) = true := decide_eq_true (by omega)
      obtain ⟨a1, a2⟩ := mov_fact HD.out HKO.out hjn
      obtain ⟨mv, hmv⟩ : ∃ mv, movN n k j = mv := ⟨_, rfl⟩
      rw [hmv] at a1 a2
      obtain ⟨x3, hex⟩ : ∃ E, exN n j = E := ⟨_, rfl⟩
      have hEb : x3 < 2 * n := by rw [← hex]; exact (ex_fact HD.out j hjn).2.1
      obtain ⟨pr, hpr⟩ : ∃ pr, x3 * k = pr := ⟨_, rfl⟩
      have hpi : (x3 : Int) * (k : Int) = (pr : Int) := by rw [← hpr]; simp
      have hpb : pr ≤ 64 * 64 := by rw [← hpr]; exact Nat.mul_le_mul (by omega) (by omega)
      obtain ⟨z, hz⟩ : ∃ z, pr % (2 * n) = z := ⟨_, rfl⟩
      have hzi : (pr : Int) % (2 * (n : Int)) = (z : Int) := by rw [← hz]; simp
      have hzt : (pr : Int).tmod (2 * (n : Int)) = (z : Int) := by rw [Int.tmod_eq_emod_of_nonneg (by omega), hzi]
      rw [hex, hpr, hz] at a2
      have HA2 := Lib.hid a2
      have HV : Hid (movZ n (k : Int) j = (mv : Int)) := Lib.hid (by unfold movZ; rw [Int.toNat_natCast, hmv])
      have HEX3 := Lib.hid hex
      clear hex hpr hz a2 hmv hbl
      go_wp2
      go_loopw [6, 8] (fun O I wr2 => ∃ (i i2 : Nat) (A3 : Option Addr) (c3 : Nat), i ≤ n ∧ I = .int .i64 (i : Int) ∧ O = .slice A3 i2 c3 ∧ i2 = (if mv < i then j + 1 else j) ∧ Z.Own .i64 wr2 w.heap.size 3 A3 i2 c3 (trZ i2 (movZ n (k : Int))) ∧ Below w.heap.size w wr2) (fun _ I _ => n - (intOf I).toNat)
      case atStart => exact ⟨0, j, A2, c2, Nat.zero_le _, rfl, rfl, by rw [if_neg (by omega)], HOWN.out, HBE.out⟩
      case round =>
        clear HOWN HBE hzr
        rename_i wr00 _
        obtain ⟨i, i2, A3, c3, hi, rfl, rfl, hi2, hown, hbl⟩ := hrel
        have HOWN := Lib.hid hown
        have HBE := Lib.hid hbl
        have k0 := (HS.out.below hbl (Nat.le_refl _)).cN
        have hzr := hbl.size
        have HI2 := Lib.hid hi2
        clear hown hi2
        by_cases hin : i < n
        · have e2 : decide ((i : Int) < (n : Int)) = true := decide_eq_true (by omega)
          obtain ⟨x4, hex4⟩ : ∃ E, exN n i = E := ⟨_, rfl⟩
          have HE := Lib.hid (fun d (t : Nat) (ht : t < n) => rexp_any b n t (wr.drewN d) k0 hn4 hn32 ht)
          have hex3 := HEX3.out
          by_cases hiv : i = mv
          · have hxe : x4 = z := by rw [← hex4, hiv]; exact HA2.out
            have e3 : ((x4 : Int) == (z : Int)) = true := by rw [hxe]; simp
            have hi2j : i2 = j := by rw [HI2.out, if_neg (by omega)]
            have HV2 : Hid (Value.int .i64 (i : Int) = .int .i64 (movZ n (k : Int) j)) := Lib.hid (by rw [HV.out, hiv])
            have him : i + 1 > mv := by omega
            subst hi2j
            subst hxe
            clear hiv
            go_wp2
            go_quiet ((exact (HE.out _ _ (by assumption)).mono fun e w' hh => ⟨hh.1, by obtain ⟨_, d, hd⟩ := hh; exact ⟨_, hd.trans (World.drewN_drewN _ _ _)⟩⟩))
            go_wp2_with (at_builtin; refine Z.wpl_append rfl _ _ _ rfl eints rfl (Z.Own.alloc (w := wr.drewN nq) HOWN.out _) rfl (Z.sq_one (w := wr.drewN nq) (x := movZ n (k : Int) i2) (lo := 0) HV2.out (Nat.zero_le _) (Nat.lt_succ_self _)) (trZ (i2 + 1) (movZ n (k : Int))) (fun k hk => trZ_lt hk) trZ_add (by unfold maxLen; omega) (by omega) (by simp; omega) ?_; intro A4 c4 w3 hown3 hg3 hb3 hat3)
            go_roundw
            case rel => exact ⟨i + 1, i2 + 1, A4, c4, hin, by go_num, rfl, by rw [if_pos him], hown3, ((below_drewN HBE.out _).alloc hzr _).trans hb3⟩
            case measure => simp only [intOf]; omega
          · have hxe : x4 ≠ z := fun h => hiv (ex_inj HD.out hin a1 (by rw [hex4, h]; exact HA2.out.symm))
            have e3 : ((x4 : Int) == (z : Int)) = false := by simp; omega
            have HNX : Hid (i2 = if mv < i + 1 then j + 1 else j) := Lib.hid (by
              rw [HI2.out]
              by_cases h5 : mv < i
              · rw [if_pos h5, if_pos (by omega)]
              · rw [if_neg h5, if_neg (by omega)])
            clear hxe
            go_wp2
            go_quiet ((exact (HE.out _ _ (by assumption)).mono fun e w' hh => ⟨hh.1, by obtain ⟨_, d, hd⟩ := hh; exact ⟨_, hd.trans (World.drewN_drewN _ _ _)⟩⟩))
            go_wp2
            go_roundw
            case rel => exact ⟨i + 1, i2, A3, c3, hin, by go_num, rfl, HNX.out, HOWN.out, below_drewN HBE.out _⟩
            case measure => simp only [intOf]; omega
        · obtain rfl : n = i := by omega
          have e2 : decide ((n : Int) < (n : Int)) = false := decide_eq_false (by omega)
          have hi2j : i2 = j + 1 := by rw [HI2.out, if_pos a1]
          subst hi2j
          go_wp2
          go_roundw
          case rel => exact ⟨j + 1, A3, c3, hjn, by go_num, rfl, HOWN.out, HBE.out⟩
          case measure => simp only [intOf]; omega
    · obtain rfl : n = j := by omega
      have e1 : decide ((n : Int) < (n : Int)) = false := decide_eq_false (by omega)
      have HO : Hid (Z.Own .i64 wr w.heap.size 3 A2 n c2 (movZ n (k : Int))) := Lib.hid (Z.Own.congr HOWN.out fun j => by
        unfold trZ
        split
        · rfl
        · unfold movZ movN; rw [if_neg (by omega)]; rfl)
      clear hbl
      go_wp2
      go_ret2
      exact ⟨HBE.out, .inr ⟨HOK.out, A2, c2, rfl, HO.out.sq (Nat.le_refl _)⟩⟩
end Go.Proofs.Ytcnkddoipmaddaa

namespace Go.Proofs.Ytcnkddoipmaddaa
open Go.RowKit
set_option linter.unusedVariables false

set_option maxRecDepth 10000 in
theorem at_start (w : World) (t : TypeId) : (w.alloc (.cells #[Value.int IntKind.i64 0, Value.int IntKind.i64 0, Value.int IntKind.i64 0, Value.int IntKind.i64 0, Value.int IntKind.i64 0, Value.int IntKind.i64 0, Value.int IntKind.i64 0, Value.int IntKind.i64 0, Value.int IntKind.i64 0, Value.int IntKind.i64 0, Value.int IntKind.i64 0, Value.int IntKind.i64 0, Value.int IntKind.i64 0, Value.int IntKind.i64 0, Value.int IntKind.i64 0, Value.int IntKind.i64 0, Value.int IntKind.i64 0, Value.int IntKind.i64 0, Value.int IntKind.i64 0, Value.int IntKind.i64 0, Value.int IntKind.i64 0, Value.int IntKind.i64 0, Value.int IntKind.i64 0, Value.int IntKind.i64 0, Value.int IntKind.i64 0, Value.int IntKind.i64 0, Value.int IntKind.i64 0, Value.int IntKind.i64 0, Value.int IntKind.i64 0, Value.int IntKind.i64 0, Value.int IntKind.i64 0, Value.int IntKind.i64 0, Value.int IntKind.i64 0, Value.int IntKind.i64 0, Value.int IntKind.i64 0, Value.int IntKind.i64 0, Value.int IntKind.i64 0, Value.int IntKind.i64 0, Value.int IntKind.i64 0, Value.int IntKind.i64 0, Value.int IntKind.i64 0, Value.int IntKind.i64 0, Value.int IntKind.i64 0, Value.int IntKind.i64 0, Value.int IntKind.i64 0, Value.int IntKind.i64 0, Value.int IntKind.i64 0, Value.int IntKind.i64 0, Value.int IntKind.i64 0, Value.int IntKind.i64 0, Value.int IntKind.i64 0, Value.int IntKind.i64 0, Value.int IntKind.i64 0, Value.int IntKind.i64 0, Value.int IntKind.i64 0, Value.int IntKind.i64 0, Value.int IntKind.i64 0, Value.int IntKind.i64 0, Value.int IntKind.i64 0, Value.int IntKind.i64 0, Value.int IntKind.i64 0, Value.int IntKind.i64 0, Value.int IntKind.i64 0, Value.int IntKind.i64 0] t)).rowIs w.heap.size t 64 (Z.ku .i64 fun _ => 0) :=
  World.rowIs_alloc w #[Value.int IntKind.i64 0, Value.int IntKind.i64 0, Value.int IntKind.i64 0, Value.int IntKind.i64 0, Value.int IntKind.i64 0, Value.int IntKind.i64 0, Value.int IntKind.i64 0, Value.int IntKind.i64 0, Value.int IntKind.i64 0, Value.int IntKind.i64 0, Value.int IntKind.i64 0, Value.int IntKind.i64 0, Value.int IntKind.i64 0, Value.int IntKind.i64 0, Value.int IntKind.i64 0, Value.int IntKind.i64 0, Value.int IntKind.i64 0, Value.int IntKind.i64 0, Value.int IntKind.i64 0, Value.int IntKind.i64 0, Value.int IntKind.i64 0, Value.int IntKind.i64 0, Value.int IntKind.i64 0, Value.int IntKind.i64 0, Value.int IntKind.i64 0, Value.int IntKind.i64 0, Value.int IntKind.i64 0, Value.int IntKind.i64 0, Value.int IntKind.i64 0, Value.int IntKind.i64 0, Value.int IntKind.i64 0, Value.int IntKind.i64 0, Value.int IntKind.i64 0, Value.int IntKind.i64 0, Value.int IntKind.i64 0, Value.int IntKind.i64 0, Value.int IntKind.i64 0, Value.int IntKind.i64 0, Value.int IntKind.i64 0, Value.int IntKind.i64 0, Value.int IntKind.i64 0, Value.int IntKind.i64 0, Value.int IntKind.i64 0, Value.int IntKind.i64 0, Value.int IntKind.i64 0, Value.int IntKind.i64 0, Value.int IntKind.i64 0, Value.int IntKind.i64 0, Value.int IntKind.i64 0, Value.int IntKind.i64 0, Value.int IntKind.i64 0, Value.int IntKind.i64 0, Value.int IntKind.i64 0, Value.int IntKind.i64 0, Value.int IntKind.i64 0, Value.int IntKind.i64 0, Value.int IntKind.i64 0, Value.int IntKind.i64 0, Value.int IntKind.i64 0, Value.int IntKind.i64 0, Value.int IntKind.i64 0, Value.int IntKind.i64 0, Value.int IntKind.i64 0, Value.int IntKind.i64 0] t (Z.ku .i64 fun _ => 0) fun i hi => by
    have hi' : i < 64 := hi
    match i, hi' with
    | 0, _ => rfl
    | 1, _ => rfl
    | 2, _ => rfl
    | 3, _ => rfl
    | 4, _ => rfl
    | 5, _ => rfl
    | 6, _ => rfl
    | 7, _ => rfl
    | 8, _ => rfl
    | 9, _ => rfl
    | 10, _ => rfl
    | 11, _ => rfl
    | 12, _ => rfl
    | 13, _ => rfl
    | 14, _ => rfl
    | 15, _ => rfl
    | 16, _ => rfl
    | 17, _ => rfl
    | 18, _ => rfl
    | 19, _ => rfl
    | 20, _ => rfl
    | 21, _ => rfl
    | 22, _ => rfl
    | 23, _ => rfl
    | 24, _ => rfl
    | 25, _ => rfl
    | 26, _ => rfl
    | 27, _ => rfl
    | 28, _ => rfl
    | 29, _ => rfl
    | 30, _ => rfl
    | 31, _ => rfl
    | 32, _ => rfl
    | 33, _ => rfl
    | 34, _ => rfl
    | 35, _ => rfl
    | 36, _ => rfl
    | 37, _ => rfl
    | 38, _ => rfl
    | 39, _ => rfl
    | 40, _ => rfl
    | 41, _ => rfl
    | 42, _ => rfl
    | 43, _ => rfl
    | 44, _ => rfl
    | 45, _ => rfl
    | 46, _ => rfl
    | 47, _ => rfl
    | 48, _ => rfl
    | 49, _ => rfl
    | 50, _ => rfl
    | 51, _ => rfl
    | 52, _ => rfl
    | 53, _ => rfl
    | 54, _ => rfl
    | 55, _ => rfl
    | 56, _ => rfl
    | 57, _ => rfl
    | 58, _ => rfl
    | 59, _ => rfl
    | 60, _ => rfl
    | 61, _ => rfl
    | 62, _ => rfl
    | 63, _ => rfl
    | k + 64, h => exact absurd h (by omega)

set_option maxRecDepth 100000 in
set_option maxHeartbeats 4000000 in
theorem moves8_any (lo b n p R x : Nat) (k : Int) (w : World) (h : Sl w lo b n p R x) (hd : dim8 n) (hk1 : -9223372036854775808 ≤ k) (hk2 : k ≤ 9223372036854775807) :
    Calls Try.prog 24 #[.pointer (some ⟨b, 0, none⟩), .int .i64 k] w (RetDc w (MvOk n k) n (movZ n k)) := by
  have hn4 : 4 ≤ n ∧ n ≤ 32 := by unfold dim8 at hd; omega
  obtain ⟨hn4, hn32⟩ := hn4
  have HD := Lib.hid hd
  have HS := Lib.hid h
  have k0 := h.cN
  have f0 : ((n : Int) == 0) = false := by simp; omega
  have hn0 : ¬ n = 0 := by omega
  clear h hd
  by_cases hok : MvOk n k
  rotate_left
  · have HN := Lib.hid hok
    have hc : k < 1 ∨ (1 ≤ k ∧ 2 * (n : Int) ≤ k) ∨ (1 ≤ k ∧ k < 2 * (n : Int) ∧ k % 2 = 0) := by
      unfold MvOk at hok
      omega
    clear hok
    rcases hc with h1 | ⟨h1, h2⟩ | ⟨h1, h2, h3⟩
    all_goals
      try first
        | have d1 : decide (k < 1) = true := decide_eq_true (by omega)
        | have d1 : decide (k < 1) = false := decide_eq_false (by omega)
      try first
        | have d2 : decide (k ≥ 2 * (n : Int)) = true := decide_eq_true (by omega)
        | have d2 : decide (k ≥ 2 * (n : Int)) = false := decide_eq_false (by omega)
      try first
        | have d6 : decide (2 * (n : Int) ≤ k) = true := decide_eq_true (by omega)
        | have d6 : decide (2 * (n : Int) ≤ k) = false := decide_eq_false (by omega)
      try have d7 : (k % 2 == 0) = true := by rw [h3]; rfl
      try have d8 : (k.tmod 2 == 0) = true := by rw [Int.tmod_eq_emod_of_nonneg (by omega), h3]; rfl
      try clear h3
      go_enter Try.func24, Try.ntmps24
      go_wp2
      go_ret2
      exact ⟨Below.refl _ _, .inl ⟨HN.out, rfl⟩⟩
  have HOK := Lib.hid hok
  obtain ⟨g1, g2, g3⟩ := hok
  obtain ⟨k, rfl⟩ : ∃ K : Nat, k = (K : Int) := ⟨k.toNat, by omega⟩
  have d1 : decide ((k : Int) < 1) = false := decide_eq_false (by omega)
  have d2 : decide ((k : Int) ≥ 2 * (n : Int)) = false := decide_eq_false (by omega)
  have d6 : decide (2 * (n : Int) ≤ (k : Int)) = false := decide_eq_false (by omega)
  have hkt : (k : Int).tmod 2 = 1 := by rw [Int.tmod_eq_emod_of_nonneg (by omega)]; exact g3
  have hko : k % 2 = 1 := by omega
  have HKO := Lib.hid hko
  have hkb : k < 64 := by omega
  have hn0' : 0 ≤ (n : Int) := by omega
  have hn32' : (n : Int) ≤ 32 := by omega
  have kx : True := trivial
  clear g1 g2 hko
  go_enter Try.func24, Try.ntmps24
  go_wp2
  clear g3
  have hrow0 := at_start w 74
  have hbt := (Below.refl w.heap.size w).alloc (Nat.le_refl _) (Obj.cells #[Value.int IntKind.i64 0, Value.int IntKind.i64 0, Value.int IntKind.i64 0, Value.int IntKind.i64 0, Value.int IntKind.i64 0, Value.int IntKind.i64 0, Value.int IntKind.i64 0, Value.int IntKind.i64 0, Value.int IntKind.i64 0, Value.int IntKind.i64 0, Value.int IntKind.i64 0, Value.int IntKind.i64 0, Value.int IntKind.i64 0, Value.int IntKind.i64 0, Value.int IntKind.i64 0, Value.int IntKind.i64 0, Value.int IntKind.i64 0, Value.int IntKind.i64 0, Value.int IntKind.i64 0, Value.int IntKind.i64 0, Value.int IntKind.i64 0, Value.int IntKind.i64 0, Value.int IntKind.i64 0, Value.int IntKind.i64 0, Value.int IntKind.i64 0, Value.int IntKind.i64 0, Value.int IntKind.i64 0, Value.int IntKind.i64 0, Value.int IntKind.i64 0, Value.int IntKind.i64 0, Value.int IntKind.i64 0, Value.int IntKind.i64 0, Value.int IntKind.i64 0, Value.int IntKind.i64 0, Value.int IntKind.i64 0, Value.int IntKind.i64 0, Value.int IntKind.i64 0, Value.int IntKind.i64 0, Value.int IntKind.i64 0, Value.int IntKind.i64 0, Value.int IntKind.i64 0, Value.int IntKind.i64 0, Value.int IntKind.i64 0, Value.int IntKind.i64 0, Value.int IntKind.i64 0, Value.int IntKind.i64 0, Value.int IntKind.i64 0, Value.int IntKind.i64 0, Value.int IntKind.i64 0, Value.int IntKind.i64 0, Value.int IntKind.i64 0, Value.int IntKind.i64 0, Value.int IntKind.i64 0, Value.int IntKind.i64 0, Value.int IntKind.i64 0, Value.int IntKind.i64 0, Value.int IntKind.i64 0, Value.int IntKind.i64 0, Value.int IntKind.i64 0, Value.int IntKind.i64 0, Value.int IntKind.i64 0, Value.int IntKind.i64 0, Value.int IntKind.i64 0, Value.int IntKind.i64 0] 74)
  generalize w.alloc (Obj.cells #[Value.int IntKind.i64 0, Value.int IntKind.i64 0, Value.int IntKind.i64 0, Value.int IntKind.i64 0, Value.int IntKind.i64 0, Value.int IntKind.i64 0, Value.int IntKind.i64 0, Value.int IntKind.i64 0, Value.int IntKind.i64 0, Value.int IntKind.i64 0, Value.int IntKind.i64 0, Value.int IntKind.i64 0, Value.int IntKind.i64 0, Value.int IntKind.i64 0, Value.int IntKind.i64 0, Value.int IntKind.i64 0, Value.int IntKind.i64 0, Value.int IntKind.i64 0, Value.int IntKind.i64 0, Value.int IntKind.i64 0, Value.int IntKind.i64 0, Value.int IntKind.i64 0, Value.int IntKind.i64 0, Value.int IntKind.i64 0, Value.int IntKind.i64 0, Value.int IntKind.i64 0, Value.int IntKind.i64 0, Value.int IntKind.i64 0, Value.int IntKind.i64 0, Value.int IntKind.i64 0, Value.int IntKind.i64 0, Value.int IntKind.i64 0, Value.int IntKind.i64 0, Value.int IntKind.i64 0, Value.int IntKind.i64 0, Value.int IntKind.i64 0, Value.int IntKind.i64 0, Value.int IntKind.i64 0, Value.int IntKind.i64 0, Value.int IntKind.i64 0, Value.int IntKind.i64 0, Value.int IntKind.i64 0, Value.int IntKind.i64 0, Value.int IntKind.i64 0, Value.int IntKind.i64 0, Value.int IntKind.i64 0, Value.int IntKind.i64 0, Value.int IntKind.i64 0, Value.int IntKind.i64 0, Value.int IntKind.i64 0, Value.int IntKind.i64 0, Value.int IntKind.i64 0, Value.int IntKind.i64 0, Value.int IntKind.i64 0, Value.int IntKind.i64 0, Value.int IntKind.i64 0, Value.int IntKind.i64 0, Value.int IntKind.i64 0, Value.int IntKind.i64 0, Value.int IntKind.i64 0, Value.int IntKind.i64 0, Value.int IntKind.i64 0, Value.int IntKind.i64 0, Value.int IntKind.i64 0] 74) = w1 at hrow0 hbt ⊢
  have k0 := (HS.out.below hbt (Nat.le_refl _)).cN
  have h320 : ¬ (32 : Nat) = 0 := by omega
  go_quiet (fail)
  go_wp2
  go_loopw [48] (fun I wr => ∃ (i : Nat) (f : Nat → Int), I = .int .i64 (i : Int) ∧ i ≤ n ∧ wr.rowIs w.heap.size 74 64 (Z.ku .i64 f) ∧ (∀ j, j < i → f (exN n j) = (j : Int)) ∧ Below w.heap.size w wr) (fun I _ => n - (intOf I).toNat)
  case atStart => exact ⟨0, fun _ => 0, rfl, Nat.zero_le _, hrow0, fun j hj => by omega, below_drewN hbt _⟩
  case round =>
    clear hrow0 hbt k0
    obtain ⟨i, f, rfl, hin, hrow, hf, hbl⟩ := hrel
    have HROW := Lib.hid hrow
    have HF := Lib.hid hf
    have HBE := Lib.hid hbl
    have hzr := hbl.size
    have hsl := HS.out.below hbl (Nat.le_refl _)
    have k0 := hsl.cN
    clear hrow hf hbl
    by_cases hlt : i < n
    · have e1 : decide ((i : Int) < (n : Int)) = true := decide_eq_true (by omega)
      have kx := hsl.ex i hlt
      obtain ⟨x3, hex⟩ : ∃ E, exN n i = E := ⟨_, rfl⟩
      rw [hex] at kx
      have hEb : x3 < 2 * n := by rw [← hex]; exact (ex_fact HD.out i hlt).2.1
      have kc := HROW.out.cell (show x3 < 64 by omega)
      have kf := HROW.out.frozen x3
      simp only [Z.ku] at kc
      obtain ⟨v, hv⟩ : ∃ v, f x3 = v := ⟨_, rfl⟩
      rw [hv] at kc
      have HNX : Hid (∀ j, j < i + 1 → (fun t => if t = x3 then (i : Int) else f t) (exN n j) = (j : Int)) := Lib.hid fun j hj => by
        dsimp only
        by_cases h5 : exN n j = x3
        · rw [if_pos h5]
          have := ex_inj HD.out (show j < n by omega) hlt (by rw [h5, hex])
          omega
        · rw [if_neg h5]
          refine HF.out j ?_
          rcases Nat.lt_or_eq_of_le (Nat.le_of_lt_succ hj) with h6 | h6
          · exact h6
          · exact absurd (by rw [h6, hex]) h5
      have hx0 : 0 ≤ (x3 : Int) := by omega
      have hx1 : (x3 : Int) < 64 := by omega
      have hi0 : 0 ≤ (i : Int) := by omega
      have hi1 : (i : Int) < (n : Int) := by omega
      clear hsl hex hv
      go_wp2
      go_roundw
      case rel => exact ⟨i + 1, _, by go_num, hlt, Z.rowIs_set_ku HROW.out x3 i, HNX.out, HBE.out.setCell (p := ⟨w.heap.size, x3, none⟩) (Nat.le_refl _) _⟩
      case measure => simp only [intOf]; omega
    · obtain rfl : n = i := by omega
      have e1 : decide ((n : Int) < (n : Int)) = false := decide_eq_false (by omega)
      clear hsl
      rename World => wo
      go_wp2_with (at_make; refine Z.wpl_make rfl _ _ _ rfl eints .i64 .i64 _ _ n rfl rfl rfl rfl (by omega) (by unfold maxLen; omega) ?_; intro w2 hr2 hb2 hs2)
      have HR := Lib.hid hr2
      have hb2' : Below w.heap.size w w2 := HBE.out.trans (hb2.mono hzr)
      have HROW2 := Lib.hid (rowIs_below HROW.out hb2 HROW.out.lt)
      have hltr := HROW.out.lt
      clear hr2
      go_loopw [65] (fun J wr3 => ∃ j : Nat, J = .int .i64 (j : Int) ∧ j ≤ n ∧ wr3.rowIs wo.heap.size 3 n (Z.ku .i64 fun t => if t < j then movZ n (k : Int) t else 0) ∧ wr3.rowIs w.heap.size 74 64 (Z.ku .i64 f) ∧ Below w.heap.size w wr3) (fun J _ => n - (intOf J).toNat)
      case atStart => exact ⟨0, rfl, Nat.zero_le _, HR.out.congr fun t _ => rfl, HROW2.out, hb2'⟩
      case round =>
        clear HR HROW2 hb2' hb2 hs2
        obtain ⟨j, rfl, hj, hrow, hrow3, hbl⟩ := hrel
        have HR := Lib.hid hrow
        have HR3 := Lib.hid hrow3
        have HB3 := Lib.hid hbl
        have hsl := HS.out.below hbl (Nat.le_refl _)
        have k0 := hsl.cN
        clear hrow hrow3 hbl
        by_cases hlt2 : j < n
        · have e2 : decide ((j : Int) < (n : Int)) = true := decide_eq_true (by omega)
          have kx := hsl.ex j hlt2
          obtain ⟨x3, hex⟩ : ∃ E, exN n j = E := ⟨_, rfl⟩
          have hEb : x3 < 2 * n := by rw [← hex]; exact (ex_fact HD.out j hlt2).2.1
          obtain ⟨a1, a2⟩ := mov_fact HD.out HKO.out hlt2
          obtain ⟨mv, hmv⟩ : ∃ mv, movN n k j = mv := ⟨_, rfl⟩
          rw [hmv] at a1 a2
          rw [hex] at kx a2
          obtain ⟨pr, hpr⟩ : ∃ pr, x3 * k = pr := ⟨_, rfl⟩
          have hpi : (x3 : Int) * (k : Int) = (pr : Int) := by rw [← hpr]; simp
          have hpb : pr ≤ 64 * 64 := by rw [← hpr]; exact Nat.mul_le_mul (by omega) (by omega)
          obtain ⟨z, hz⟩ : ∃ z, pr % (2 * n) = z := ⟨_, rfl⟩
          have hzi : (pr : Int) % (2 * (n : Int)) = (z : Int) := by rw [← hz]; simp
          have hzt : (pr : Int).tmod (2 * (n : Int)) = (z : Int) := by rw [Int.tmod_eq_emod_of_nonneg (by omega), hzi]
          have hzb : z < 2 * n := by rw [← hz]; exact Nat.mod_lt _ (by omega)
          rw [hpr, hz] at a2
          have kz := HR3.out.cell (show z < 64 by omega)
          simp only [Z.ku] at kz
          rw [← a2, HF.out mv a1, a2] at kz
          have ko := HR.out.cell hlt2
          have kof := HR.out.frozen j
          simp only [Z.ku] at ko
          rw [if_neg (by omega)] at ko
          have HV : Hid (movZ n (k : Int) j = (mv : Int)) := Lib.hid (by unfold movZ; rw [Int.toNat_natCast, hmv])
          have hx0 : 0 ≤ (z : Int) := by omega
          have hx1 : (z : Int) < 64 := by omega
          have hj0 : 0 ≤ (j : Int) := by omega
          have hj1 : (j : Int) < (n : Int) := by omega
          have hj32 : (j : Int) < 32 := by omega
          have hj32' : j < 32 := by omega
          have hne : wo.heap.size ≠ w.heap.size := by omega
          clear hsl hex hmv hpr hz a2
          go_wp2
          refine wp_region_quiet_tail 20 (by kernel_rfl) (by kernel_rfl) ?_
          simp only [List.take_succ_cons, List.take_zero, List.drop_succ_cons, List.drop_zero]
          repeat (go_big_quiet_step (fail))
          refine wpQuiet_nil ?_
          rintro _ ⟨d2, rfl⟩
          go_wp2
          all_goals go_roundw
          case rel =>
            refine ⟨j + 1, by go_num, hlt2, (Z.rowIs_set_ku (w := wr.drewN d2) HR.out j mv).congr fun t _ => ?_, World.rowIs.setOther (w := wr.drewN d2) HR3.out hne.symm _, (below_drewN HB3.out d2).setCell (p := ⟨wo.heap.size, j, none⟩) (show w.heap.size ≤ wo.heap.size by omega) _⟩
            simp only [Z.ku]
            congr 1
            by_cases hkj : t = j
            · rw [if_pos hkj, hkj, if_pos (Nat.lt_succ_self j), HV.out]
            · rw [if_neg hkj]
              by_cases h2 : t < j
              · rw [if_pos h2, if_pos (by omega)]
              · rw [if_neg h2, if_neg (by omega)]
          case measure => simp only [intOf]; omega
        · obtain rfl : n = j := by omega
          have e2 : decide ((n : Int) < (n : Int)) = false := decide_eq_false (by omega)
          go_wp2
          go_ret2
          refine ⟨HB3.out, .inr ⟨HOK.out, _, _, rfl, Z.Sq.of_row HR.out (Nat.le_refl _) (by omega) HR.out.lt (fun t ht => ?_) fun t ht => ?_⟩⟩
          · unfold movZ movN; rw [if_neg (by omega)]; rfl
          · rw [if_pos ht]
end Go.Proofs.Ytcnkddoipmaddaa
