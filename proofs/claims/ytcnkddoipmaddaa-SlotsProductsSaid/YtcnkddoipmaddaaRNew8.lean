/- The contract of slots.New. -/
/- The contract of the reference's New of layer 8. -/
import Derived.Test.YtcnkddoipmaddaaNReg14
import Derived.Test.YtcnkddoipmaddaaRDec8
namespace Go.Proofs.Ytcnkddoipmaddaa
open Go.RowKit
set_option linter.unusedVariables false

set_option maxRecDepth 100000 in
set_option maxHeartbeats 4000000 in
theorem new8_any (n : Int) (p : Nat) (r : Int) (w : World) (hp : p ≤ 4294967295) (hr : r ≤ 9223372036854775807) : Calls Try.prog 21 #[.int .i64 n, .int .u32 p, .int .i64 r] w (RetN8 w n p r) := by
  by_cases hn4 : 4 ≤ n
  rotate_left
  · have HN : Hid (¬ NewOk8 n p r) := Lib.hid fun h => hn4 h.1
    have e1 : decide (n < 4) = true := decide_eq_true (by omega)
    clear hn4
    go_enter Try.func21, Try.ntmps21
    go_wp2
    go_ret2
    exact ⟨Below.refl _ _, .inl ⟨HN.out, rfl⟩⟩
  have e1 : decide (n < 4) = false := decide_eq_false (by omega)
  have HROOT := Lib.hid (froot_any n p r w hp hr)
  go_enter Try.func21, Try.ntmps21
  go_wp2_with fail
  (with_reducible refine HROOT.out.mono ?_)
  rintro e w1 ⟨hb1, hh⟩
  have hz1 := hb1.size
  rcases hh with ⟨hno, rfl⟩ | ⟨hok, hno, rfl⟩ | ⟨hok, x, hx, rfl⟩
  · have HN : Hid (¬ NewOk8 n p r) := Lib.hid fun h => hno ⟨h.2.1, h.2.2.1⟩
    clear hno
    go_wp2_with fail
    go_ret2
    exact ⟨hb1, .inl ⟨HN.out, rfl⟩⟩
  · have HN : Hid (¬ NewOk8 n p r) := Lib.hid fun h => hno h.2.2.2
    clear hno hok
    go_wp2_with fail
    go_ret2
    exact ⟨hb1, .inl ⟨HN.out, rfl⟩⟩
  obtain ⟨n, rfl, _, _⟩ := dimF_nat hok.1.1
  obtain ⟨R, rfl⟩ : ∃ R : Nat, r = (R : Int) := ⟨r.toNat, by have := hok.2.1.2.2.2.1; omega⟩
  rw [Int.toNat_natCast, Int.toNat_natCast] at hx
  have HX := Lib.hid hx
  have HOK : Hid (NewOk8 (n : Int) p (R : Int)) := Lib.hid ⟨hn4, hok⟩
  have hg := g8_of HOK.out HX.out
  have HG := Lib.hid hg
  have hp3 := hg.p3
  have hp6 := hg.p6
  have hR1 := hg.R1
  have hR7 := hg.R7
  obtain ⟨hn4', hn32⟩ := hg.nb
  clear hx hok hg
  go_wp2_with fail
  have hrow0 := slF_start ((w1.alloc (Obj.cells #[Value.int IntKind.u64 1] 61)).alloc (Obj.cells #[Value.int IntKind.u64 1] 61)) n p (.slice (some ⟨w1.heap.size, 0, none⟩) 1 1) (.slice (some ⟨w1.heap.size + 1, 0, none⟩) 1 1) 53
  obtain ⟨B, hB⟩ : ∃ B, w1.heap.size = B := ⟨_, rfl⟩
  have hbt := ((((Below.refl w1.heap.size w1).alloc (Nat.le_refl _) (Obj.cells #[Value.int IntKind.u64 1] 61)).alloc (by simp) (Obj.cells #[Value.int IntKind.u64 1] 61)).alloc (by simp; omega) (Obj.cells #[.int .i64 (n : Int), .int .u32 (p : Int), .slice (some ⟨w1.heap.size, 0, none⟩) 1 1, .slice (some ⟨w1.heap.size + 1, 0, none⟩) 1 1, Value.int IntKind.i64 0, Value.int IntKind.i64 0, Value.int IntKind.i64 0, Value.int IntKind.i64 0, Value.int IntKind.i64 0, Value.int IntKind.i64 0, Value.int IntKind.i64 0, Value.int IntKind.i64 0, Value.int IntKind.i64 0, Value.int IntKind.i64 0, Value.int IntKind.i64 0, Value.int IntKind.i64 0, Value.int IntKind.i64 0, Value.int IntKind.i64 0, Value.int IntKind.i64 0, Value.int IntKind.i64 0, Value.int IntKind.i64 0, Value.int IntKind.i64 0, Value.int IntKind.i64 0, Value.int IntKind.i64 0, Value.int IntKind.i64 0, Value.int IntKind.i64 0, Value.int IntKind.i64 0, Value.int IntKind.i64 0, Value.int IntKind.i64 0, Value.int IntKind.i64 0, Value.int IntKind.i64 0, Value.int IntKind.i64 0, Value.int IntKind.i64 0, Value.int IntKind.i64 0, Value.int IntKind.i64 0, Value.int IntKind.i64 0] 53))
  have hoP : Own .u64 (w1.alloc (Obj.cells #[Value.int IntKind.u64 1] 61)) B 61 (some ⟨w1.heap.size, 0, none⟩) 1 1 (trN 1 fun k => p ^ k) := own_new1 (by omega) (by simp)
  have hoZ : Own .u64 ((w1.alloc (Obj.cells #[Value.int IntKind.u64 1] 61)).alloc (Obj.cells #[Value.int IntKind.u64 1] 61)) B 61 (some ⟨(w1.alloc (Obj.cells #[Value.int IntKind.u64 1] 61)).heap.size, 0, none⟩) 1 1 (trN 1 fun k => x ^ k % p ^ R) := own_new1 (by simp; omega) (by rw [Nat.pow_zero]; exact Nat.mod_eq_of_lt (by have := HG.out.pe hR1 (Nat.le_refl _); omega))
  have hNI : NI _ w1.heap.size n p w1.heap.size 1 1 (w1.heap.size + 1) 1 1 (fun k => p ^ k) (fun k => x ^ k % p ^ R) (fun _ => 0) := ⟨by simpa using hrow0, (by rw [← hB] at hoP; exact (hoP.alloc _).alloc _), by rw [← hB] at hoZ; simpa using hoZ.alloc _, by omega, by omega, by omega, Nat.le_refl _, by omega⟩
  generalize ((w1.alloc (Obj.cells #[Value.int IntKind.u64 1] 61)).alloc (Obj.cells #[Value.int IntKind.u64 1] 61)).alloc (Obj.cells #[.int .i64 (n : Int), .int .u32 (p : Int), .slice (some ⟨w1.heap.size, 0, none⟩) 1 1, .slice (some ⟨w1.heap.size + 1, 0, none⟩) 1 1, Value.int IntKind.i64 0, Value.int IntKind.i64 0, Value.int IntKind.i64 0, Value.int IntKind.i64 0, Value.int IntKind.i64 0, Value.int IntKind.i64 0, Value.int IntKind.i64 0, Value.int IntKind.i64 0, Value.int IntKind.i64 0, Value.int IntKind.i64 0, Value.int IntKind.i64 0, Value.int IntKind.i64 0, Value.int IntKind.i64 0, Value.int IntKind.i64 0, Value.int IntKind.i64 0, Value.int IntKind.i64 0, Value.int IntKind.i64 0, Value.int IntKind.i64 0, Value.int IntKind.i64 0, Value.int IntKind.i64 0, Value.int IntKind.i64 0, Value.int IntKind.i64 0, Value.int IntKind.i64 0, Value.int IntKind.i64 0, Value.int IntKind.i64 0, Value.int IntKind.i64 0, Value.int IntKind.i64 0, Value.int IntKind.i64 0, Value.int IntKind.i64 0, Value.int IntKind.i64 0, Value.int IntKind.i64 0, Value.int IntKind.i64 0] 53) = w3 at hNI hbt ⊢
  clear hrow0 hoP hoZ hB B
  go_loopw [35] (fun I wr => ∃ i gP cP : Nat, I = .int .i64 (i : Int) ∧ i ≤ R ∧ NI wr w1.heap.size n p gP cP (i + 1) (w1.heap.size + 1) 1 1 (fun k => p ^ k) (fun k => x ^ k % p ^ R) (fun _ => 0) ∧ Below w1.heap.size w1 wr) (fun I _ => R - (intOf I).toNat)
  case atStart => exact ⟨0, _, _, rfl, Nat.zero_le _, hNI, hbt⟩
  case round =>
    clear hNI hbt
    obtain ⟨i, gP, cP, rfl, hiR, hNI, hbt⟩ := hrel
    by_cases hlt : i < R
    · have e2 : decide ((i : Int) < (R : Int)) = true := decide_eq_true (by omega)
      have HNI := Lib.hid hNI
      have HBT := Lib.hid hbt
      have hpe := (HG.out.pe (by omega) (show i + 1 ≤ R from hlt)).2.1
      have HPE := Lib.hid hpe
      clear hNI hbt hpe
      go_wp2
      refine nReg9 _ _ _ _ _ _ _ _ _ _ _ _ _ _ _ _ _ _ _ _ _ _ _ _ _ _ _ _ _ _ _ _ _ _ _ _ _ _ _ _ _ _ _ _ _ _ _ _ _ _ _ _ _ _ _ _ _ _ _ _ _ _ _ _ _ _ _ _ _ _ _ _ _ _ _ _ _ _ _ _ _ _ _ _ _ _ _ _ _ _ _ _ _ _ _ _ _ _ _ _ _ _ _ _ _ _ _ _ _ _ _ _ _ _ _ _ _ _ _ _ _ _ _ _ _ _ _ _ _ _ _ _ _ _ _ _ _ _ w1.heap.size n p R i gP cP _ _ _ _ _ _ wr HNI.out (by omega) hp6 (by omega) HPE.out ?_
      intros
      rename_i gg cap w5 hN5 hB5
      have HN5 := Lib.hid hN5
      have HB5 := Lib.hid hB5
      clear hN5 hB5
      go_wp2
      go_roundw
      case rel => exact ⟨i + 1, gg, cap, by go_num, hlt, HN5.out, HBT.out.trans (HB5.out.mono (Nat.le_refl _))⟩
      case measure => simp only [intOf]; omega
    · obtain rfl : R = i := by omega
      have e2 : decide ((R : Int) < (R : Int)) = false := decide_eq_false (by omega)
      have HNI := Lib.hid hNI
      have HBT := Lib.hid hbt
      have hzr := hbt.size
      clear hNI hbt
      go_wp2
      go_loopw [11] (fun I wr => ∃ i gP cP gZ cZ : Nat, I = .int .i64 (i : Int) ∧ 1 ≤ i ∧ i ≤ 2 * n ∧ NI wr w1.heap.size n p gP cP (R + 1) gZ cZ i (fun k => p ^ k) (fun k => x ^ k % p ^ R) (fun _ => 0) ∧ Below w1.heap.size w1 wr) (fun I _ => 2 * n - (intOf I).toNat)
      case atStart => exact ⟨1, _, _, _, _, rfl, Nat.le_refl _, by omega, HNI.out, HBT.out⟩
      case round =>
        clear HNI HBT hzr
        rename_i wr0 _
        clear e2
        obtain ⟨i, gP, cP, gZ, cZ, rfl, hi1, hi2, hNI, hbt⟩ := hrel
        by_cases hlt : i < 2 * n
        · have e2 : decide ((i : Int) < 2 * (n : Int)) = true := decide_eq_true (by omega)
          have HNI := Lib.hid hNI
          have HBT := Lib.hid hbt
          clear hNI hbt
          go_wp2
          refine nReg14 _ _ _ _ _ _ _ _ _ _ _ _ _ _ _ _ _ _ _ _ _ _ _ _ _ _ _ _ _ _ _ _ _ _ _ _ _ _ _ _ _ _ _ _ _ _ _ _ _ _ _ _ _ _ _ _ _ _ _ _ _ _ _ _ _ _ _ _ _ _ _ _ _ _ _ _ _ _ _ _ _ _ _ _ _ _ _ _ _ _ _ _ _ _ _ _ _ _ _ _ _ _ _ _ _ _ _ _ _ _ _ _ _ _ _ _ _ _ _ _ _ _ _ _ _ _ _ _ _ _ _ _ _ _ _ _ w1.heap.size n p R x i gP cP gZ cZ _ _ wr HNI.out hi1 (by omega) hR7 HG.out.xb HG.out.pR ?_
          intros
          rename_i gg cap w5 hN5 hB5
          have HN5 := Lib.hid hN5
          have HB5 := Lib.hid hB5
          clear hN5 hB5
          go_wp2
          go_roundw
          case rel => exact ⟨i + 1, gP, cP, gg, cap, by go_num, by omega, hlt, HN5.out, HBT.out.trans (HB5.out.mono (Nat.le_refl _))⟩
          case measure => simp only [intOf]; omega
        · obtain rfl : i = 2 * n := by omega
          have e2 : decide (2 * (n : Int) < 2 * (n : Int)) = false := decide_eq_false (by omega)
          have HNI := Lib.hid hNI
          have HBT := Lib.hid hbt
          have hzr := hbt.size
          clear hNI hbt
          go_wp2
          obtain ⟨h, hh⟩ : ∃ h, n / 2 = h := ⟨_, rfl⟩
          have hht : (n : Int).tdiv 2 = (h : Int) := by rw [Int.tdiv_eq_ediv_of_nonneg (by omega)]; omega
          have hhd : (n : Int) / 2 = (h : Int) := by omega
          have hn2h : n = 2 * h := by have := HG.out.dim; unfold dim8 at this; omega
          have HN2 := Lib.hid hn2h
          have hih : (h : Int) ≤ 32 := by omega
          have hh0 : 0 ≤ (h : Int) := by omega
          have hhn : (h : Int) ≤ (n : Int) := by omega
          have hn32' : (n : Int) ≤ 32 := by omega
          have hhnN : h ≤ n := by omega
          have hne1 : ¬ n = h := by omega
          have hne2 : ¬ (n : Int) = (h : Int) := by omega
          have hne3 : ¬ h = 0 := by omega
          have hnh : n - h = h := by omega
          clear hn2h hh
          have hn0' : 0 ≤ (n : Int) := by omega
          go_region
          go_wp2
          clear hne1 hne2 hnh
          go_loopw [14, 15] (fun J K wr2 => ∃ j k : Nat, J = .int .i64 (j : Int) ∧ K = .int .i64 (k : Int) ∧ j ≤ h ∧ k < 2 * n ∧ 3 ^ j % (2 * n) = k ∧ NI wr2 w1.heap.size n p gP cP (R + 1) gZ cZ (2 * n) (fun k => p ^ k) (fun k => x ^ k % p ^ R) (exP n h j) ∧ Below w1.heap.size w1 wr2) (fun J _ _ => h - (intOf J).toNat)
          case atStart => exact ⟨0, 1, rfl, rfl, Nat.zero_le _, by omega, by rw [Nat.pow_zero]; exact Nat.mod_eq_of_lt (by omega), by
            have h0 := HNI.out
            have e : exP n h 0 = fun _ => 0 := funext fun t => if_neg (by omega)
            rw [e]
            exact ni_drew h0 1, below_drewN HBT.out 1⟩
          case round =>
            clear HNI HBT hzr
            rename_i wr00 _
            obtain ⟨j, k, rfl, rfl, hjh, hkn, hk, hNI, hbt⟩ := hrel
            by_cases hlt : j < h
            · have e3 : decide ((j : Int) < (h : Int)) = true := decide_eq_true (by omega)
              have kc1 := hNI.row.cell (show 4 + j < 36 by omega)
              have kc2 := hNI.row.cell (show 4 + (h + j) < 36 by omega)
              rw [slF_e] at kc1 kc2
              obtain ⟨v1, hv1⟩ : ∃ v, exP n h j j = v := ⟨_, rfl⟩
              obtain ⟨v2, hv2⟩ : ∃ v, exP n h j (h + j) = v := ⟨_, rfl⟩
              rw [hv1] at kc1
              rw [hv2, ← Nat.add_assoc] at kc2
              have kf1 := hNI.row.frozen (4 + j)
              have kf2 := hNI.row.frozen (4 + (h + j))
              rw [← Nat.add_assoc] at kf2
              obtain ⟨k2, hk2⟩ : ∃ k2, 3 * k % (2 * n) = k2 := ⟨_, rfl⟩
              have hki : (3 * (k : Int)) % (2 * (n : Int)) = (k2 : Int) := by rw [← hk2]; simp
              have hkt : (3 * (k : Int)).tmod (2 * (n : Int)) = (k2 : Int) := by rw [Int.tmod_eq_emod_of_nonneg (by omega), hki]
              have hk2n : k2 < 2 * n := by rw [← hk2]; exact Nat.mod_lt _ (by omega)
              have HNX : Hid (3 ^ (j + 1) % (2 * n) = k2) := Lib.hid (by rw [← hk2, ← hk, Nat.pow_succ, Nat.mul_comm 3, Nat.mod_mul_mod])
              have hsub : 2 * (n : Int) - (k : Int) = ((2 * n - k : Nat) : Int) := by omega
              have HN5 := Lib.hid (ni_ex hNI hlt (by have := HN2.out; omega) hk (by omega))
              rw [← Nat.add_assoc] at HN5
              have hlt2 := hNI.row.lt
              have HBT := Lib.hid hbt
              have hj0 : 0 ≤ (j : Int) := by omega
              have hjlt : (j : Int) < (h : Int) := by omega
              have hn0 : ¬ n = 0 := by omega
              clear hv1 hv2 hk2 hk hNI hbt
              go_wp2
              go_quiet (fail)
              go_wp2
              go_roundw
              case rel => exact ⟨j + 1, k2, by go_num, rfl, hlt, hk2n, HNX.out, ni_drew HN5.out _, below_drewN ((HBT.out.setCell (p := ⟨w1.heap.size + 1 + 1, 4 + j, none⟩) (show w1.heap.size ≤ w1.heap.size + 1 + 1 by omega) _).setCell (p := ⟨w1.heap.size + 1 + 1, 4 + h + j, none⟩) (show w1.heap.size ≤ w1.heap.size + 1 + 1 by omega) _) _⟩
              case measure => simp only [intOf]; omega
            · obtain rfl : h = j := by omega
              have e3 : decide ((h : Int) < (h : Int)) = false := decide_eq_false (by omega)
              have HSL := Lib.hid (ni_sl hNI HN2.out hn32 hz1)
              have HBT := Lib.hid hbt
              clear hNI hbt hk
              go_wp2
              go_ret2
              exact ⟨hb1.trans (HBT.out.mono hz1), .inr ⟨HOK.out, _, x, rfl, by rw [Int.toNat_natCast, Int.toNat_natCast]; exact HX.out, by rw [Int.toNat_natCast, Int.toNat_natCast]; exact HSL.out⟩⟩
end Go.Proofs.Ytcnkddoipmaddaa

namespace Go.Proofs.Ytcnkddoipmaddaa
open Go.RowKit
set_option linter.unusedVariables false

def RetRN8 (w : World) (n : Int) (p : Nat) (r : Int) (e : Ending) (w' : World) : Prop :=
  Below w.heap.size w w' ∧ ((¬ NewOk8 n p r ∧ e = .returned (.tuple #[.pointer none, .int .i64 2])) ∨
    (NewOk8 n p r ∧ ∃ b x : Nat, e = .returned (.tuple #[.pointer (some ⟨b, 0, none⟩), .int .i64 0]) ∧ FrIs n.toNat p r.toNat x ∧ Rz w' w.heap.size b n.toNat p r.toNat x))

set_option maxRecDepth 100000 in
set_option maxHeartbeats 4000000 in
theorem rnew8_any (n : Int) (p : Nat) (r : Int) (w : World) (hp : p ≤ 4294967295) (hr : r ≤ 9223372036854775807) : Calls Try.prog 29 #[.int .i64 n, .int .u32 p, .int .i64 r] w (RetRN8 w n p r) := by
  have HROOT := Lib.hid (rroot_any n p r w hp hr)
  go_enter Try.func29, Try.ntmps29
  go_wp2_with fail
  (with_reducible refine HROOT.out.mono ?_)
  rintro e w1 ⟨hb1, hh⟩
  have hz1 := hb1.size
  rcases hh with ⟨hno, rfl⟩ | ⟨hok, hno, rfl⟩ | ⟨hok, x, hx, rfl⟩
  · have HN : Hid (¬ NewOk8 n p r) := Lib.hid fun h => hno ⟨h.2.1, h.2.2.1⟩
    clear hno
    go_wp2_with fail
    go_ret2
    exact ⟨hb1, .inl ⟨HN.out, rfl⟩⟩
  · have HN : Hid (¬ NewOk8 n p r) := Lib.hid fun h => hno h.2.2.2
    clear hno hok
    go_wp2_with fail
    go_ret2
    exact ⟨hb1, .inl ⟨HN.out, rfl⟩⟩
  by_cases hn4 : 4 ≤ n
  rotate_left
  · have HN : Hid (¬ NewOk8 n p r) := Lib.hid fun h => hn4 h.1
    have e1 : decide (n < 4) = true := decide_eq_true (by omega)
    clear hok hx hn4
    go_wp2_with fail
    go_ret2
    exact ⟨hb1, .inl ⟨HN.out, rfl⟩⟩
  have e1 : decide (n < 4) = false := decide_eq_false (by omega)
  obtain ⟨n, rfl, _, _⟩ := dimF_nat hok.1.1
  obtain ⟨R, rfl⟩ : ∃ R : Nat, r = (R : Int) := ⟨r.toNat, by have := hok.2.1.2.2.2.1; omega⟩
  have HX := Lib.hid hx
  have HOK : Hid (NewOk8 (n : Int) p (R : Int)) := Lib.hid ⟨hn4, hok⟩
  clear hx hok
  go_wp2_with fail
  go_ret2
  refine ⟨hb1.trans (((Below.refl w1.heap.size w1).alloc (Nat.le_refl _) _).mono hz1), .inr ⟨HOK.out, _, x, rfl, HX.out, ?_⟩⟩
  rw [Int.toNat_natCast, Int.toNat_natCast]
  exact ⟨by rw [World.cell?_alloc_new]; rfl, by rw [World.cell?_alloc_new]; rfl, by rw [World.cell?_alloc_new]; rfl, by rw [World.cell?_alloc_new]; rfl, hz1, by rw [World.size_alloc]; omega⟩
end Go.Proofs.Ytcnkddoipmaddaa
