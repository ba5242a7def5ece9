/- The walks of the laws SlotsNone, SlotsMoves and SlotsKnown: they return true. -/
import Derived.Test.YtcnkddoipmaddaaLawsB8
import Derived.Test.YtcnkddoipmaddaaMov8b
namespace Go.Proofs.Ytcnkddoipmaddaa
open Go.RowKit
set_option linter.unusedVariables false

/-! ### slots that are none -/
def NoSl (w : World) (p : Value) : Prop := p = .pointer none ∨ ∃ b, p = .pointer (some ⟨b, 0, none⟩) ∧ w.cell? ⟨b, 0, none⟩ = some (.int .i64 0)
theorem nocheck (p l E : Value) (w : World) (h : NoSl w p) : Calls Try.prog 30 #[p, l, E] w (RetP w (.int .i64 1)) := by
  rcases h with rfl | ⟨b, rfl, hc⟩
  · exact check_nil l E w
  · exact check_zero b l E w hc
theorem noenc (p l E : Value) (w : World) (h : NoSl w p) : Calls Try.prog 15 #[p, l, E] w (RetP w (.tuple #[.slice none 0 0, .int .i64 1])) := by
  have HC := Lib.hid (nocheck p l E w h)
  clear h
  go_enter Try.func15, Try.ntmps15
  go_wp2_with fail
  refine HC.out.mono ?_
  rintro e w' ⟨rfl, hw⟩
  subst hw
  go_wp2_with fail
  go_ret2
  exact ⟨rfl, rfl⟩
theorem nodec (p l E : Value) (w : World) (h : NoSl w p) : Calls Try.prog 16 #[p, l, E] w (RetP w (.tuple #[.slice none 0 0, .int .i64 1])) := by
  have HC := Lib.hid (nocheck p l E w h)
  clear h
  go_enter Try.func16, Try.ntmps16
  go_wp2_with fail
  refine HC.out.mono ?_
  rintro e w' ⟨rfl, hw⟩
  subst hw
  go_wp2_with fail
  go_ret2
  exact ⟨rfl, rfl⟩
theorem nopow (p t s : Value) (w : World) (h : NoSl w p) : Calls Try.prog 23 #[p, t, s] w (RetP w (.tuple #[.int .i64 0, .int .i64 1])) := by
  rcases h with rfl | ⟨b, rfl, hc⟩
  · exact power8_nil t s w
  · exact power8_zero b t s w hc
theorem nomov (p k : Value) (w : World) (h : NoSl w p) : Calls Try.prog 24 #[p, k] w (RetP w (.tuple #[.slice none 0 0, .int .i64 1])) := by
  rcases h with rfl | ⟨b, rfl, hc⟩
  · exact moves8_nil k w
  · exact moves8_zero b k w hc

set_option maxRecDepth 100000 in
set_option maxHeartbeats 1000000 in
theorem slotsNone_any (A : Option Addr) (m c : Nat) (k : Int) (w : World) : Calls Try.prog 8 #[.slice A m c, .int .i64 k] w (RetV w (.bool true)) := by
  have hc0 : (w.alloc (.cells #[.int .i64 0, .int .u32 0, .slice none 0 0, .slice none 0 0, Value.int IntKind.i64 0, Value.int IntKind.i64 0, Value.int IntKind.i64 0, Value.int IntKind.i64 0, Value.int IntKind.i64 0, Value.int IntKind.i64 0, Value.int IntKind.i64 0, Value.int IntKind.i64 0, Value.int IntKind.i64 0, Value.int IntKind.i64 0, Value.int IntKind.i64 0, Value.int IntKind.i64 0, Value.int IntKind.i64 0, Value.int IntKind.i64 0, Value.int IntKind.i64 0, Value.int IntKind.i64 0, Value.int IntKind.i64 0, Value.int IntKind.i64 0, Value.int IntKind.i64 0, Value.int IntKind.i64 0, Value.int IntKind.i64 0, Value.int IntKind.i64 0, Value.int IntKind.i64 0, Value.int IntKind.i64 0, Value.int IntKind.i64 0, Value.int IntKind.i64 0, Value.int IntKind.i64 0, Value.int IntKind.i64 0, Value.int IntKind.i64 0, Value.int IntKind.i64 0, Value.int IntKind.i64 0, Value.int IntKind.i64 0] 53)).cell? ⟨w.heap.size, 0, none⟩ = some (.int .i64 0) := by rw [World.cell?_alloc_new]; rfl
  have hz0 : (w.alloc (.cells #[.int .i64 0, .int .u32 0, .slice none 0 0, .slice none 0 0, Value.int IntKind.i64 0, Value.int IntKind.i64 0, Value.int IntKind.i64 0, Value.int IntKind.i64 0, Value.int IntKind.i64 0, Value.int IntKind.i64 0, Value.int IntKind.i64 0, Value.int IntKind.i64 0, Value.int IntKind.i64 0, Value.int IntKind.i64 0, Value.int IntKind.i64 0, Value.int IntKind.i64 0, Value.int IntKind.i64 0, Value.int IntKind.i64 0, Value.int IntKind.i64 0, Value.int IntKind.i64 0, Value.int IntKind.i64 0, Value.int IntKind.i64 0, Value.int IntKind.i64 0, Value.int IntKind.i64 0, Value.int IntKind.i64 0, Value.int IntKind.i64 0, Value.int IntKind.i64 0, Value.int IntKind.i64 0, Value.int IntKind.i64 0, Value.int IntKind.i64 0, Value.int IntKind.i64 0, Value.int IntKind.i64 0, Value.int IntKind.i64 0, Value.int IntKind.i64 0, Value.int IntKind.i64 0, Value.int IntKind.i64 0] 53)).heap.size = w.heap.size + 1 := World.size_alloc _ _
  have hb0 := (Below.refl w.heap.size w).alloc (Nat.le_refl _) (.cells #[.int .i64 0, .int .u32 0, .slice none 0 0, .slice none 0 0, Value.int IntKind.i64 0, Value.int IntKind.i64 0, Value.int IntKind.i64 0, Value.int IntKind.i64 0, Value.int IntKind.i64 0, Value.int IntKind.i64 0, Value.int IntKind.i64 0, Value.int IntKind.i64 0, Value.int IntKind.i64 0, Value.int IntKind.i64 0, Value.int IntKind.i64 0, Value.int IntKind.i64 0, Value.int IntKind.i64 0, Value.int IntKind.i64 0, Value.int IntKind.i64 0, Value.int IntKind.i64 0, Value.int IntKind.i64 0, Value.int IntKind.i64 0, Value.int IntKind.i64 0, Value.int IntKind.i64 0, Value.int IntKind.i64 0, Value.int IntKind.i64 0, Value.int IntKind.i64 0, Value.int IntKind.i64 0, Value.int IntKind.i64 0, Value.int IntKind.i64 0, Value.int IntKind.i64 0, Value.int IntKind.i64 0, Value.int IntKind.i64 0, Value.int IntKind.i64 0, Value.int IntKind.i64 0, Value.int IntKind.i64 0] 53)
  have HB : Hid (∃ w2, w2 = (w.alloc (.cells #[.int .i64 0, .int .u32 0, .slice none 0 0, .slice none 0 0, Value.int IntKind.i64 0, Value.int IntKind.i64 0, Value.int IntKind.i64 0, Value.int IntKind.i64 0, Value.int IntKind.i64 0, Value.int IntKind.i64 0, Value.int IntKind.i64 0, Value.int IntKind.i64 0, Value.int IntKind.i64 0, Value.int IntKind.i64 0, Value.int IntKind.i64 0, Value.int IntKind.i64 0, Value.int IntKind.i64 0, Value.int IntKind.i64 0, Value.int IntKind.i64 0, Value.int IntKind.i64 0, Value.int IntKind.i64 0, Value.int IntKind.i64 0, Value.int IntKind.i64 0, Value.int IntKind.i64 0, Value.int IntKind.i64 0, Value.int IntKind.i64 0, Value.int IntKind.i64 0, Value.int IntKind.i64 0, Value.int IntKind.i64 0, Value.int IntKind.i64 0, Value.int IntKind.i64 0, Value.int IntKind.i64 0, Value.int IntKind.i64 0, Value.int IntKind.i64 0, Value.int IntKind.i64 0, Value.int IntKind.i64 0] 53)).alloc (.cells #[.pointer none, .pointer (some ⟨w.heap.size, 0, none⟩)] 27)) := Lib.hid ⟨_, rfl⟩
  have hb1 := hb0.alloc hb0.size (.cells #[.pointer none, .pointer (some ⟨w.heap.size, 0, none⟩)] 27)
  have k0 : ((w.alloc (.cells #[.int .i64 0, .int .u32 0, .slice none 0 0, .slice none 0 0, Value.int IntKind.i64 0, Value.int IntKind.i64 0, Value.int IntKind.i64 0, Value.int IntKind.i64 0, Value.int IntKind.i64 0, Value.int IntKind.i64 0, Value.int IntKind.i64 0, Value.int IntKind.i64 0, Value.int IntKind.i64 0, Value.int IntKind.i64 0, Value.int IntKind.i64 0, Value.int IntKind.i64 0, Value.int IntKind.i64 0, Value.int IntKind.i64 0, Value.int IntKind.i64 0, Value.int IntKind.i64 0, Value.int IntKind.i64 0, Value.int IntKind.i64 0, Value.int IntKind.i64 0, Value.int IntKind.i64 0, Value.int IntKind.i64 0, Value.int IntKind.i64 0, Value.int IntKind.i64 0, Value.int IntKind.i64 0, Value.int IntKind.i64 0, Value.int IntKind.i64 0, Value.int IntKind.i64 0, Value.int IntKind.i64 0, Value.int IntKind.i64 0, Value.int IntKind.i64 0, Value.int IntKind.i64 0, Value.int IntKind.i64 0] 53)).alloc (.cells #[.pointer none, .pointer (some ⟨w.heap.size, 0, none⟩)] 27)).cell? ⟨w.heap.size + 1, 0, none⟩ = some (.pointer none) := by rw [← hz0, World.cell?_alloc_new]; rfl
  have k1 : ((w.alloc (.cells #[.int .i64 0, .int .u32 0, .slice none 0 0, .slice none 0 0, Value.int IntKind.i64 0, Value.int IntKind.i64 0, Value.int IntKind.i64 0, Value.int IntKind.i64 0, Value.int IntKind.i64 0, Value.int IntKind.i64 0, Value.int IntKind.i64 0, Value.int IntKind.i64 0, Value.int IntKind.i64 0, Value.int IntKind.i64 0, Value.int IntKind.i64 0, Value.int IntKind.i64 0, Value.int IntKind.i64 0, Value.int IntKind.i64 0, Value.int IntKind.i64 0, Value.int IntKind.i64 0, Value.int IntKind.i64 0, Value.int IntKind.i64 0, Value.int IntKind.i64 0, Value.int IntKind.i64 0, Value.int IntKind.i64 0, Value.int IntKind.i64 0, Value.int IntKind.i64 0, Value.int IntKind.i64 0, Value.int IntKind.i64 0, Value.int IntKind.i64 0, Value.int IntKind.i64 0, Value.int IntKind.i64 0, Value.int IntKind.i64 0, Value.int IntKind.i64 0, Value.int IntKind.i64 0, Value.int IntKind.i64 0] 53)).alloc (.cells #[.pointer none, .pointer (some ⟨w.heap.size, 0, none⟩)] 27)).cell? ⟨w.heap.size + 1, 1, none⟩ = some (.pointer (some ⟨w.heap.size, 0, none⟩)) := by rw [← hz0, World.cell?_alloc_new]; rfl
  have hc1 : ((w.alloc (.cells #[.int .i64 0, .int .u32 0, .slice none 0 0, .slice none 0 0, Value.int IntKind.i64 0, Value.int IntKind.i64 0, Value.int IntKind.i64 0, Value.int IntKind.i64 0, Value.int IntKind.i64 0, Value.int IntKind.i64 0, Value.int IntKind.i64 0, Value.int IntKind.i64 0, Value.int IntKind.i64 0, Value.int IntKind.i64 0, Value.int IntKind.i64 0, Value.int IntKind.i64 0, Value.int IntKind.i64 0, Value.int IntKind.i64 0, Value.int IntKind.i64 0, Value.int IntKind.i64 0, Value.int IntKind.i64 0, Value.int IntKind.i64 0, Value.int IntKind.i64 0, Value.int IntKind.i64 0, Value.int IntKind.i64 0, Value.int IntKind.i64 0, Value.int IntKind.i64 0, Value.int IntKind.i64 0, Value.int IntKind.i64 0, Value.int IntKind.i64 0, Value.int IntKind.i64 0, Value.int IntKind.i64 0, Value.int IntKind.i64 0, Value.int IntKind.i64 0, Value.int IntKind.i64 0, Value.int IntKind.i64 0] 53)).alloc (.cells #[.pointer none, .pointer (some ⟨w.heap.size, 0, none⟩)] 27)).cell? ⟨w.heap.size, 0, none⟩ = some (.int .i64 0) := (World.cell?_alloc_lt _ _ _ (by rw [hz0]; show w.heap.size < _; omega)).trans hc0
  have hz1 : ((w.alloc (.cells #[.int .i64 0, .int .u32 0, .slice none 0 0, .slice none 0 0, Value.int IntKind.i64 0, Value.int IntKind.i64 0, Value.int IntKind.i64 0, Value.int IntKind.i64 0, Value.int IntKind.i64 0, Value.int IntKind.i64 0, Value.int IntKind.i64 0, Value.int IntKind.i64 0, Value.int IntKind.i64 0, Value.int IntKind.i64 0, Value.int IntKind.i64 0, Value.int IntKind.i64 0, Value.int IntKind.i64 0, Value.int IntKind.i64 0, Value.int IntKind.i64 0, Value.int IntKind.i64 0, Value.int IntKind.i64 0, Value.int IntKind.i64 0, Value.int IntKind.i64 0, Value.int IntKind.i64 0, Value.int IntKind.i64 0, Value.int IntKind.i64 0, Value.int IntKind.i64 0, Value.int IntKind.i64 0, Value.int IntKind.i64 0, Value.int IntKind.i64 0, Value.int IntKind.i64 0, Value.int IntKind.i64 0, Value.int IntKind.i64 0, Value.int IntKind.i64 0, Value.int IntKind.i64 0, Value.int IntKind.i64 0] 53)).alloc (.cells #[.pointer none, .pointer (some ⟨w.heap.size, 0, none⟩)] 27)).heap.size = w.heap.size + 2 := by rw [World.size_alloc, hz0]
  obtain ⟨w2, hw2⟩ := HB.out
  rw [← hw2] at hb1 k0 k1 hc1 hz1
  have HW2 := Lib.hid hw2
  have HALL := Lib.hid (And.intro hb1 (And.intro k0 (And.intro k1 (And.intro hc1 hz1))))
  clear HB hc0 hz0 hb0 hb1 k0 k1 hc1 hz1 hw2
  go_enter Try.func8, Try.ntmps8
  go_wp2_with fail
  rw [← HW2.out]
  go_loopw [6] (fun I wr => ∃ i : Nat, I = .int .i64 (i : Int) ∧ i ≤ 2 ∧ wr = w2) (fun I _ => 2 - (intOf I).toNat)
  case atStart => exact ⟨0, rfl, Nat.zero_le _, rfl⟩
  case round =>
    obtain ⟨i, rfl, hi2, rfl⟩ := hrel
    by_cases hin : i < 2
    · have hcell : ∃ p, NoSl wr p ∧ wr.cell? ⟨w.heap.size + 1, i, none⟩ = some p := by
        obtain ⟨_, k0, k1, hc1, hz1⟩ := HALL.out
        rcases (show i = 0 ∨ i = 1 by omega) with rfl | rfl
        · exact ⟨.pointer none, .inl rfl, k0⟩
        · exact ⟨.pointer (some ⟨w.heap.size, 0, none⟩), .inr ⟨_, rfl, hc1⟩, k1⟩
      obtain ⟨p, hp, k1⟩ := hcell
      have HP := Lib.hid hp
      clear hp
      go_wp2_with fail
      (with_reducible refine (noenc p _ _ wr HP.out).mono ?_)
      rintro e w3 ⟨rfl, hw⟩
      subst hw
      go_wp2_with fail
      (with_reducible refine (nodec p _ _ wr HP.out).mono ?_)
      rintro e w3 ⟨rfl, hw⟩
      subst hw
      go_wp2_with fail
      (with_reducible refine (nopow p _ _ wr HP.out).mono ?_)
      rintro e w3 ⟨rfl, hw⟩
      subst hw
      go_wp2_with fail
      (with_reducible refine (nomov p _ wr HP.out).mono ?_)
      rintro e w3 ⟨rfl, hw⟩
      subst hw
      go_wp2_with fail
      go_roundw
      case rel => exact ⟨i + 1, by go_num, hin, by first | trivial | rfl⟩
      case measure => simp only [intOf]; omega
    · obtain rfl : i = 2 := by omega
      go_wp2_with fail
      (with_reducible refine (awake8_any wr).mono ?_)
      rintro e w3 ⟨rfl, hb3⟩
      go_wp2_with fail
      go_ret
      obtain ⟨hb1, _, _, _, hz1⟩ := HALL.out
      exact ⟨rfl, hb1.trans (hb3.mono (by omega))⟩

set_option maxRecDepth 100000 in
set_option maxHeartbeats 2000000 in
theorem slotsMoves_any (n : Int) (p : Nat) (r ee : Int) (u v : Value) (t k : Int) (w : World) (hp : p ≤ 4294967295) (hr : r ≤ 9223372036854775807) (hk1 : -9223372036854775808 ≤ k) (hk2 : k ≤ 9223372036854775807) :
    Calls Try.prog 7 #[.agg #[.int .i64 n, .int .u32 p, .int .i64 r, .int .i64 ee, u, v], .int .i64 t, .int .i64 k] w (RetV w (.bool true)) := by
  have hcx := Cx8.new w n p r ee u v 25
  have hb1 : Below w.heap.size w (w.alloc (.cells #[.int .i64 n, .int .u32 p, .int .i64 r, .int .i64 ee, u, v] 25)) := (Below.refl _ w).alloc (Nat.le_refl _) _
  obtain ⟨w1, hw1⟩ : ∃ w1, w1 = w.alloc (.cells #[.int .i64 n, .int .u32 p, .int .i64 r, .int .i64 ee, u, v] 25) := ⟨_, rfl⟩
  rw [← hw1] at hcx hb1
  have HW1 := Lib.hid hw1
  have HCX := Lib.hid hcx
  have c0 := hcx.c0
  have c1 := hcx.c1
  have c2 := hcx.c2
  have c3 := hcx.c3
  have c4 := hcx.c4
  have c5 := hcx.c5
  have hz1 := hb1.size
  clear hw1 hcx
  go_enter Try.func7, Try.ntmps7
  repeat
    fail_if_success rw [← HW1.out]
    go_step
  rw [← HW1.out]
  go_wp2_with fail
  (with_reducible refine (made8_any n p r _ _ _ w1 hp hr).mono ?_)
  rintro e w2 ⟨hb2, hh⟩
  have hb12 := hb1.trans (hb2.mono hz1)
  have hz2 := hb12.size
  clear c0 c1 c2 c3 c4 c5
  rcases hh with ⟨hno, rfl⟩ | ⟨kk, R, b, x, b2, rfl, rfl, hok, rfl, hg, ht, hrz⟩
  · clear hno
    go_wp2_with fail
    (with_reducible refine (awake8_any w2).mono ?_)
    rintro e w3 ⟨rfl, hb3⟩
    go_wp2_with fail
    go_ret
    exact ⟨rfl, hb12.trans (hb3.mono hz2)⟩
  obtain ⟨hn4, hn32⟩ := hg.nb
  have HG := Lib.hid hg
  have HT := Lib.hid ht
  have HR := Lib.hid hrz
  obtain ⟨L1, E1, G1, l1, _, _, u1⟩ := ret_uni8 (MvOk kk k) kk (movZ kk k)
  obtain ⟨v1, hv1⟩ : ∃ v1, powN kk t false = v1 := ⟨_, rfl⟩
  obtain ⟨v2, hv2⟩ : ∃ v2, powN kk t true = v2 := ⟨_, rfl⟩
  have HP1 := Lib.hid (fun d => power8_any _ b kk p R x t false (w2.drewN d) (HT.out.below (below_drewN (Below.refl _ _) d) (Nat.le_refl _)) hn4 hn32)
  have HP2 := Lib.hid (fun d => power8_any _ b kk p R x t true (w2.drewN d) (HT.out.below (below_drewN (Below.refl _ _) d) (Nat.le_refl _)) hn4 hn32)
  rw [hv1] at HP1
  rw [hv2] at HP2
  have HV := Lib.hid (And.intro hv1 hv2)
  clear hok hg ht hrz hv1 hv2
  go_wp2_with fail
  refine (HP1.out 0).mono ?_
  rintro e w3 ⟨rfl, d3, rfl⟩
  go_wp2_with fail
  refine (HP2.out _).mono ?_
  rintro e w4 ⟨rfl, d4, rfl⟩
  have HT4 := Lib.hid (HT.out.below (below_drewN (Below.refl _ w2) (d3 + d4)) (Nat.le_refl _))
  have HR4 := Lib.hid (HR.out.below (below_drewN (Below.refl _ w2) (d3 + d4)) (Nat.le_refl _))
  have hb14 := below_drewN hb12 (d3 + d4)
  go_wp2_with fail
  generalize w2.drewN (d3 + d4) = w4 at HT4 HR4 hb14 ⊢
  have hz4 := hb14.size
  have HM := Lib.hid (moves8_any _ b kk p R x k w4 HT4.out HG.out.dim hk1 hk2)
  clear HP1 HP2
  refine HM.out.mono ?_
  rintro e w5 hh
  obtain ⟨hb5, A1, e1, rfl, hs1⟩ := u1 _ _ _ hh
  have hb15 := hb14.trans (hb5.mono hz4)
  have hz5 := hb15.size
  have hz45 := hb5.size
  have HR5 := Lib.hid (HR4.out.below hb5 (Nat.le_refl _))
  have HS1 := Lib.hid hs1
  have HQ1 := Lib.hid (fun d => rpower8_any _ b2 kk p R x t false (w5.drewN d) (HR5.out.below (below_drewN (Below.refl _ _) d) (Nat.le_refl _)) hn4 hn32)
  have HQ2 := Lib.hid (fun d => rpower8_any _ b2 kk p R x t true (w5.drewN d) (HR5.out.below (below_drewN (Below.refl _ _) d) (Nat.le_refl _)) hn4 hn32)
  rw [HV.out.1] at HQ1
  rw [HV.out.2] at HQ2
  clear hh hs1 HM
  go_wp2_with fail
  refine (HQ1.out 0).mono ?_
  rintro e w6 ⟨rfl, d6, rfl⟩
  go_wp2_with fail
  refine (HQ2.out _).mono ?_
  rintro e w7 ⟨rfl, d7, rfl⟩
  have HR7 := Lib.hid (HR5.out.below (below_drewN (Below.refl _ w5) (d6 + d7)) (Nat.le_refl _))
  have HS7 := Lib.hid (HS1.out.below (below_drewN (Below.refl _ w5) (d6 + d7)) (Nat.le_refl _))
  have hb17 := below_drewN hb15 (d6 + d7)
  have hz57 : w5.heap.size ≤ (w5.drewN (d6 + d7)).heap.size := Nat.le_refl _
  go_wp2_with fail
  generalize w5.drewN (d6 + d7) = w7 at HR7 HS7 hb17 hz57 ⊢
  have hz7 := hb17.size
  have HM := Lib.hid (rmoves8_any _ b2 kk p R x k w7 HR7.out HG.out.dim hk1 hk2)
  clear HQ1 HQ2
  refine HM.out.mono ?_
  rintro e w8 hh
  obtain ⟨hb8, A2, e2, rfl, hs2⟩ := u1 _ _ _ hh
  have hb18 := hb17.trans (hb8.mono hz7)
  have hz8 := hb18.size
  have hz78 := hb8.size
  have HS8 := Lib.hid (And.intro (HS7.out.below hb8 hz57) hs2)
  have f1 : (E1 == E1) = true := beq_self_eq_true _
  have f2 : ((v1 : Int) == (v1 : Int)) = true := beq_self_eq_true _
  have f3 : ((v2 : Int) == (v2 : Int)) = true := beq_self_eq_true _
  have HI := Lib.hid ((sameInts8_any L1 L1 e1 e2 A1 A2 G1 G1 w8 _ _ _ _ HS8.out.1 HS8.out.2 (by omega) (by omega) (by omega) (Nat.le_refl _)).mono fun e w' hh => hh.yes ⟨rfl, fun _ _ => rfl⟩)
  clear hh hs2 HM
  go_wp2_with fail
  refine HI.out.mono ?_
  rintro e w9 ⟨rfl, hb9⟩
  have hb19 := hb18.trans (hb9.mono hz8)
  have hz9 := hb19.size
  go_wp2_with fail
  (with_reducible refine (awake8_any w9).mono ?_)
  rintro e w10 ⟨rfl, hb10⟩
  go_wp2_with fail
  go_ret
  exact ⟨rfl, hb19.trans (hb10.mono hz9)⟩

/-! ### the examples -/
/-- a list of ints against a written-out one -/
theorem sameInts_lit (w : World) (A : Option Addr) (n c lo : Nat) (G : Nat → Int) (L : List Int) (h : Z.Sq .i64 w lo w.heap.size A n G) (hn : n ≤ 1000) (hL : L.length = n) (hG : ∀ j, j < n → G j = litZ L j) :
    Calls Try.prog 27 #[.slice A n c, .slice (some ⟨w.heap.size, 0, none⟩) L.length L.length] (w.alloc (.cells (L.map fun (x : Int) => Value.int .i64 x).toArray 3)) (RetV w (.bool true)) := by
  have hb1 := (Below.refl w.heap.size w).alloc (Nat.le_refl _) (.cells (L.map fun (x : Int) => Value.int .i64 x).toArray 3)
  refine (sameInts8_any n L.length c L.length A _ G (litZ L) _ _ _ 0 (w.heap.size + 1) (h.below hb1 (Nat.le_refl _)) (sq_listZ .i64 w 3 0 _ L (Nat.zero_le _) (Nat.lt_succ_self _)) (by omega) (by omega) (by simp) (by simp)).mono fun e w' hh => ?_
  have h2 := hh.yes ⟨hL.symm, hG⟩
  exact ⟨h2.1, hb1.trans (h2.2.mono (by simp))⟩
theorem kn8_no : ¬ NewOk8 4 13 1 ∧ ¬ NewOk8 2 5 1 ∧ ¬ NewOk8 4 17 8 := by
  refine ⟨fun h => ?_, fun h => ?_, fun h => ?_⟩
  · exact absurd h.2.2.2 (by decide)
  · exact absurd h.1 (by omega)
  · exact absurd h.2.2.1.2.2.2.2 (by decide)
theorem kn8_facts : (∀ j, j < 4 → encF (17 ^ 1) 4 2 (invN 4 (17 ^ 1)) (litZ [1, 1, 1, 1]) j = litZ [1, 0, 0, 0] j) ∧ powN 4 0 true = 7 ∧ powN 4 (-1) true = 5 ∧ (∀ j, j < 4 → movZ 4 3 j = litZ [1, 0, 3, 2] j) ∧ (∀ j, j < 4 → movZ 4 7 j = litZ [2, 3, 0, 1] j) := by decide +kernel
theorem kn8_mv : MvOk 4 3 ∧ MvOk 4 7 ∧ ¬ MvOk 4 2 := by unfold MvOk; omega

set_option maxRecDepth 100000 in
set_option maxHeartbeats 2000000 in
theorem slotsKnown_any (w : World) : Calls Try.prog 11 #[] w (RetV w (.bool true)) := by
  have HN := Lib.hid (new8_any 4 17 1 w (by omega) (by omega))
  go_enter Try.func11, Try.ntmps11
  go_wp2_with fail
  refine HN.out.mono ?_
  rintro e w1 ⟨hb1, hh⟩
  have hz1 := hb1.size
  rcases hh with ⟨hno, _⟩ | ⟨_, b, x, rfl, hx, hsl⟩
  · exact absurd aw8_ok hno
  obtain rfl := aw8_x hx
  have HG := Lib.hid (g8_of (n := 4) (p := 17) (r := 1) aw8_ok hx)
  have HS1 := Lib.hid hsl
  clear hx hsl HN
  go_wp2_with fail
  refine (new8_any 4 13 1 w1 (by omega) (by omega)).mono ?_
  rintro e w2 ⟨hb2, hh⟩
  have hb12 := hb1.trans (hb2.mono hz1)
  have hz2 := hb12.size
  have HS2 := Lib.hid (HS1.out.below hb2 (Nat.le_refl _))
  rcases hh with ⟨_, rfl⟩ | ⟨hok, _⟩
  rotate_left
  · exact absurd hok kn8_no.1
  go_wp2_with fail
  refine (new8_any 2 5 1 w2 (by omega) (by omega)).mono ?_
  rintro e w3 ⟨hb3, hh⟩
  have hb13 := hb12.trans (hb3.mono hz2)
  have hz3 := hb13.size
  have HS3 := Lib.hid (HS2.out.below hb3 (Nat.le_refl _))
  rcases hh with ⟨_, rfl⟩ | ⟨hok, _⟩
  rotate_left
  · exact absurd hok kn8_no.2.1
  go_wp2_with fail
  refine (new8_any 4 17 8 w3 (by omega) (by omega)).mono ?_
  rintro e w4 ⟨hb4, hh⟩
  have hb14 := hb13.trans (hb4.mono hz3)
  have hz4 := hb14.size
  have HS4 := Lib.hid (HS3.out.below hb4 (Nat.le_refl _))
  rcases hh with ⟨_, rfl⟩ | ⟨hok, _⟩
  rotate_left
  · exact absurd hok kn8_no.2.2
  clear HS1 HS2 HS3
  go_wp2_with fail
  refine (enc_lit w4 _ b 4 17 1 2 1 [1, 1, 1, 1] [1, 0, 0, 0] HG.out HS4.out rfl rfl (by omega) (by omega) (by decide +kernel) kn8_facts.1).mono ?_
  rintro e w5 ⟨hb5, A5, c5, rfl, hsq5⟩
  have hb15 := hb14.trans (hb5.mono hz4)
  have hz5 := hb15.size
  have HS5 := Lib.hid (HS4.out.below hb5 (Nat.le_refl _))
  have HQ5 := Lib.hid (hsq5.wide (lo' := 0) (Nat.zero_le _) (Nat.le_refl _))
  have HP1 := Lib.hid (power8_any _ b 4 17 1 2 0 true w5 HS5.out (by omega) (by omega))
  rw [kn8_facts.2.1] at HP1
  clear hsq5
  go_wp2_with fail
  refine HP1.out.mono ?_
  rintro e w6 ⟨rfl, d6, rfl⟩
  have HS6 := Lib.hid (HS5.out.below (below_drewN (Below.refl _ w5) d6) (Nat.le_refl _))
  have HQ6 := Lib.hid (HQ5.out.below (below_drewN (Below.refl _ w5) d6) (Nat.le_refl _))
  have hb16 := below_drewN hb15 d6
  have hz56 : w5.heap.size ≤ (w5.drewN d6).heap.size := Nat.le_refl _
  generalize w5.drewN d6 = w6 at HS6 HQ6 hb16 hz56 ⊢
  have HP2 := Lib.hid (power8_any _ b 4 17 1 2 (-1) true w6 HS6.out (by omega) (by omega))
  rw [kn8_facts.2.2.1] at HP2
  go_wp2_with fail
  refine HP2.out.mono ?_
  rintro e w7 ⟨rfl, d7, rfl⟩
  have HS7 := Lib.hid (HS6.out.below (below_drewN (Below.refl _ w6) d7) (Nat.le_refl _))
  have HQ7 := Lib.hid ((HQ6.out.wide (Nat.le_refl _) hz56).below (below_drewN (Below.refl _ w6) d7) (Nat.le_refl _))
  have hb17 := below_drewN hb16 d7
  have hz67 : w6.heap.size ≤ (w6.drewN d7).heap.size := Nat.le_refl _
  generalize w6.drewN d7 = w7 at HS7 HQ7 hb17 hz67 ⊢
  have hz7 := hb17.size
  go_wp2_with fail
  refine (moves8_any _ b 4 17 1 2 3 w7 HS7.out HG.out.dim (by omega) (by omega)).mono ?_
  rintro e w8 ⟨hb8, hh⟩
  rcases hh with ⟨hno, _⟩ | ⟨_, A8, c8, rfl, hsq8⟩
  · exact absurd kn8_mv.1 hno
  have hb18 := hb17.trans (hb8.mono hz7)
  have hz8 := hb18.size
  have hz78 := hb8.size
  have HS8 := Lib.hid (HS7.out.below hb8 (Nat.le_refl _))
  have HQ8 := Lib.hid (And.intro ((HQ7.out.wide (Nat.le_refl _) hz67).below hb8 (Nat.le_refl _)) (hsq8.wide (lo' := 0) (Nat.zero_le _) (Nat.le_refl _)))
  clear hsq8
  go_wp2_with fail
  refine (moves8_any _ b 4 17 1 2 7 w8 HS8.out HG.out.dim (by omega) (by omega)).mono ?_
  rintro e w9 ⟨hb9, hh⟩
  rcases hh with ⟨hno, _⟩ | ⟨_, A9, c9, rfl, hsq9⟩
  · exact absurd kn8_mv.2.1 hno
  have hb19 := hb18.trans (hb9.mono hz8)
  have hz9 := hb19.size
  have hz89 := hb9.size
  have HS9 := Lib.hid (HS8.out.below hb9 (Nat.le_refl _))
  have HQ9 := Lib.hid (And.intro ((HQ8.out.1.wide (Nat.le_refl _) hz78).below hb9 (Nat.le_refl _)) (And.intro (HQ8.out.2.below hb9 (Nat.le_refl _)) (hsq9.wide (lo' := 0) (Nat.zero_le _) (Nat.le_refl _))))
  clear hsq9
  go_wp2_with fail
  refine (moves8_any _ b 4 17 1 2 2 w9 HS9.out HG.out.dim (by omega) (by omega)).mono ?_
  rintro e w10 ⟨hb10, hh⟩
  rcases hh with ⟨_, rfl⟩ | ⟨hok, _⟩
  rotate_left
  · exact absurd hok kn8_mv.2.2
  have hb110 := hb19.trans (hb10.mono hz9)
  have hz10 := hb110.size
  have hz910 := hb10.size
  have HQ10 := Lib.hid (And.intro ((HQ9.out.1.wide (Nat.le_refl _) hz89).below hb10 (Nat.le_refl _)) (And.intro ((HQ9.out.2.1.wide (Nat.le_refl _) hz89).below hb10 (Nat.le_refl _)) (HQ9.out.2.2.below hb10 (Nat.le_refl _))))
  go_wp2_with fail
  refine (same_lit w10 A5 4 c5 0 _ [1, 0, 0, 0] (HQ10.out.1.wide (Nat.le_refl _) hz910) (by omega) rfl (fun _ _ => rfl)).mono ?_
  rintro e w11 ⟨rfl, hb11⟩
  have hb111 := hb110.trans (hb11.mono hz10)
  have hz11 := hb111.size
  have hz1011 := hb11.size
  go_wp2_with fail
  refine (sameInts_lit w11 A8 4 c8 0 _ [1, 0, 3, 2] (((HQ10.out.2.1.wide (Nat.le_refl _) hz910).below hb11 (Nat.le_refl _)).wide (Nat.le_refl _) hz1011) (by omega) rfl kn8_facts.2.2.2.1).mono ?_
  rintro e w12 ⟨rfl, hb12'⟩
  have hb112 := hb111.trans (hb12'.mono hz11)
  have hz12 := hb112.size
  have hz1112 := hb12'.size
  go_wp2_with fail
  refine (sameInts_lit w12 A9 4 c9 0 _ [2, 3, 0, 1] (((((HQ10.out.2.2.wide (Nat.le_refl _) hz910).below hb11 (Nat.le_refl _)).wide (Nat.le_refl _) hz1011).below hb12' (Nat.le_refl _)).wide (Nat.le_refl _) hz1112) (by omega) rfl kn8_facts.2.2.2.2).mono ?_
  rintro e w13 ⟨rfl, hb13'⟩
  have hb113 := hb112.trans (hb13'.mono hz12)
  have hz13 := hb113.size
  go_wp2_with fail
  (with_reducible refine (awake8_any w13).mono ?_)
  rintro e w14 ⟨rfl, hb14'⟩
  go_wp2_with fail
  go_ret
  exact ⟨rfl, hb113.trans (hb14'.mono hz13)⟩
end Go.Proofs.Ytcnkddoipmaddaa
