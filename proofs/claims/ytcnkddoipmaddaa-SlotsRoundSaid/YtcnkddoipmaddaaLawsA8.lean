/- The walks of the laws SlotsRound and SlotsCodes: they return true. -/
import Derived.Test.YtcnkddoipmaddaaAwk8
import Derived.Test.YtcnkddoipmaddaaREnc8
namespace Go.Proofs.Ytcnkddoipmaddaa
open Go.RowKit
set_option linter.unusedVariables false

/-- a list that a call made is the one that came in -/
theorem same_in (n c c' lo lo2 hi2 : Nat) (A B : Option Addr) (F a : Nat → Int) (w : World) (h : Z.Sq .i64 w lo w.heap.size A n F) (ha : Z.Sq .i64 w lo2 hi2 B n a) (hF : ∀ j, j < n → F j = a j) (hn : n ≤ 1000) (hhi : hi2 ≤ w.heap.size) :
    Calls Try.prog 20 #[.slice A n c, .slice B n c'] w (RetV w (.bool true)) :=
  (same8_any n n c c' A B F a w lo w.heap.size lo2 hi2 h ha (by omega) (by omega) (Nat.le_refl _) hhi).mono fun e w' hh => hh.yes ⟨rfl, hF⟩

set_option maxRecDepth 100000 in
set_option maxHeartbeats 2000000 in
theorem slotsRound_any (n : Int) (p : Nat) (r ee : Int) (m c : Nat) (A : Option Addr) (a : Nat → Int) (v : Value) (w : World) (hp : p ≤ 4294967295) (hr : r ≤ 9223372036854775807) (ha : Z.Sq .i64 w 0 w.heap.size A m a) (hm : m ≤ 9223372036854775807) :
    Calls Try.prog 4 #[.agg #[.int .i64 n, .int .u32 p, .int .i64 r, .int .i64 ee, .slice A m c, v]] w (RetV w (.bool true)) := by
  have hcx := Cx8.new w n p r ee (.slice A m c) v 25
  have hb1 : Below w.heap.size w (w.alloc (.cells #[.int .i64 n, .int .u32 p, .int .i64 r, .int .i64 ee, .slice A m c, v] 25)) := (Below.refl _ w).alloc (Nat.le_refl _) _
  obtain ⟨w1, hw1⟩ : ∃ w1, w1 = w.alloc (.cells #[.int .i64 n, .int .u32 p, .int .i64 r, .int .i64 ee, .slice A m c, v] 25) := ⟨_, rfl⟩
  rw [← hw1] at hcx hb1
  have HW1 := Lib.hid hw1
  have HCX := Lib.hid hcx
  have HA := Lib.hid ha
  have c0 := hcx.c0
  have c1 := hcx.c1
  have c2 := hcx.c2
  have hz1 := hb1.size
  clear hw1 hcx ha
  go_enter Try.func4, Try.ntmps4
  repeat
    fail_if_success rw [← HW1.out]
    go_step
  rw [← HW1.out]
  go_wp2_with fail
  (with_reducible refine (new8_any n p r w1 hp hr).mono ?_)
  rintro e w2 ⟨hb2, hh⟩
  have hb12 := hb1.trans (hb2.mono hz1)
  have hz2 := hb12.size
  have HCX2 := Lib.hid (HCX.out.below hb2 HCX.out.lt)
  clear c0 c1 c2
  rcases hh with ⟨hno, rfl⟩ | ⟨hok, b, x, rfl, hx, hsl⟩
  · clear hno
    go_wp2_with fail
    (with_reducible refine (awake8_any w2).mono ?_)
    rintro e w3 ⟨rfl, hb3⟩
    go_wp2_with fail
    go_ret
    exact ⟨rfl, hb12.trans (hb3.mono hz2)⟩
  obtain ⟨k, R, rfl, rfl⟩ := new8_open hok
  rw [Int.toNat_natCast, Int.toNat_natCast] at hx hsl
  have HG := Lib.hid (g8_of hok hx)
  have HS2 := Lib.hid hsl
  have hnb := HG.out.nb
  have c3 := HCX2.out.c3
  have c4 := HCX2.out.c4
  have HE := Lib.hid (encode_any _ b k p R x m c 0 w.heap.size ee A a w2 HG.out hsl (HA.out.below hb12 (Nat.le_refl _)) hm hz2)
  clear hok hx hsl
  go_wp2_with fail
  refine HE.out.mono ?_
  rintro e w3 ⟨hb3, hh⟩
  have hb13 := hb12.trans (hb3.mono hz2)
  have hz3 := hb13.size
  have HCX3 := Lib.hid (HCX2.out.below hb3 HCX2.out.lt)
  have HS3 := Lib.hid (HS2.out.below hb3 (Nat.le_refl _))
  clear c3 c4
  rcases hh with ⟨hno, rfl⟩ | ⟨hok, A3, c3', rfl, hsq3⟩
  · clear hno
    go_wp2_with fail
    (with_reducible refine (awake8_any w3).mono ?_)
    rintro e w4 ⟨rfl, hb4⟩
    go_wp2_with fail
    go_ret
    exact ⟨rfl, hb13.trans (hb4.mono hz3)⟩
  have HOK := Lib.hid hok
  obtain ⟨hE1, hE2, hmk, hBl⟩ := hok
  subst hmk
  obtain ⟨E, rfl⟩ : ∃ E : Nat, ee = (E : Int) := ⟨ee.toNat, by omega⟩
  rw [Int.toNat_natCast] at hsq3 hBl
  have hpe := HG.out.pe (e := E) (by omega) (by omega)
  have hodd := hpe.2.2
  obtain ⟨hsh1, hsh2, _, _⟩ := inv_share HG.out (e := E) (by omega)
  have HZ := Lib.hid (HG.out.zr.down (d := E) (by omega) (by omega))
  have HBL := Lib.hid hBl
  have HSH := Lib.hid hsh2
  have HQ3 := Lib.hid hsq3
  have HOK2 : Hid (∀ F, Bl (p ^ E) m F → VOk m p R m F (E : Int)) := Lib.hid fun F hF => ⟨hE1, hE2, rfl, by rw [Int.toNat_natCast]; exact hF⟩
  have c3 := HCX3.out.c3
  have HD := Lib.hid (decode_any _ b m p R x m c3' _ _ (E : Int) A3 _ w3 HG.out HS3.out hsq3 hm (Nat.le_refl _))
  rw [Int.toNat_natCast] at HD
  clear hE1 hE2 hsq3 hBl hpe hsh1 hsh2
  go_wp2_with fail
  refine HD.out.mono ?_
  rintro e w4 ⟨hb4, hh⟩
  have hb14 := hb13.trans (hb4.mono hz3)
  have hz4 := hb14.size
  have HCX4 := Lib.hid (HCX3.out.below hb4 HCX3.out.lt)
  have HS4 := Lib.hid (HS3.out.below hb4 (Nat.le_refl _))
  clear c3
  rcases hh with ⟨hno, _⟩ | ⟨_, A4, c4', rfl, hsq4⟩
  · exact absurd (HOK2.out _ (encF_bl hodd)) hno
  have HQ4 := Lib.hid hsq4
  have c3 := HCX4.out.c3
  have c4 := HCX4.out.c4
  have HD2 := Lib.hid (decode_any _ b m p R x m c 0 w.heap.size (E : Int) A a w4 HG.out HS4.out (HA.out.below hb14 (Nat.le_refl _)) hm hz4)
  rw [Int.toNat_natCast] at HD2
  clear hsq4
  go_wp2_with fail
  refine HD2.out.mono ?_
  rintro e w5 ⟨hb5, hh⟩
  have hb15 := hb14.trans (hb5.mono hz4)
  have hz5 := hb15.size
  have HCX5 := Lib.hid (HCX4.out.below hb5 HCX4.out.lt)
  have HS5 := Lib.hid (HS4.out.below hb5 (Nat.le_refl _))
  have HQ45 := Lib.hid (HQ4.out.below hb5 (Nat.le_refl _))
  clear c3 c4
  rcases hh with ⟨hno, _⟩ | ⟨_, A5, c5', rfl, hsq5⟩
  · exact absurd (HOK2.out _ HBL.out) hno
  have HQ5 := Lib.hid hsq5
  have c3 := HCX5.out.c3
  have HE2 := Lib.hid (encode_any _ b m p R x m c5' _ _ (E : Int) A5 _ w5 HG.out HS5.out hsq5 hm (Nat.le_refl _))
  rw [Int.toNat_natCast] at HE2
  clear hsq5
  go_wp2_with fail
  refine HE2.out.mono ?_
  rintro e w6 ⟨hb6, hh⟩
  have hb16 := hb15.trans (hb6.mono hz5)
  have hz6 := hb16.size
  have HCX6 := Lib.hid (HCX5.out.below hb6 HCX5.out.lt)
  have HQ46 := Lib.hid (HQ45.out.below hb6 hb5.size)
  clear c3
  rcases hh with ⟨hno, _⟩ | ⟨_, A6, c6', rfl, hsq6⟩
  · exact absurd (HOK2.out _ (decF_bl hodd)) hno
  have HQ6 := Lib.hid hsq6
  have c4 := HCX6.out.c4
  have HS1 := Lib.hid (same_in m c4' c _ 0 w.heap.size A4 A _ a w6 (HQ46.out.wide (Nat.le_refl _) (Nat.le_trans hb5.size hb6.size)) (HA.out.below hb16 (Nat.le_refl _)) (fun j hj => dec_enc HG.out.dim HZ.out hodd HSH.out HBL.out hj) (by omega) hz6)
  clear hsq6
  go_wp2_with fail
  refine HS1.out.mono ?_
  rintro e w7 ⟨rfl, hb7⟩
  have hb17 := hb16.trans (hb7.mono hz6)
  have hz7 := hb17.size
  have c4 := (HCX6.out.below hb7 HCX6.out.lt).c4
  have HS2' := Lib.hid (same_in m c6' c _ 0 w.heap.size A6 A _ a w7 ((HQ6.out.below hb7 (Nat.le_refl _)).wide (Nat.le_refl _) hb7.size) (HA.out.below hb17 (Nat.le_refl _)) (fun j hj => enc_dec HG.out.dim HZ.out hodd HSH.out HBL.out hj) (by omega) hz7)
  go_wp2_with fail
  refine HS2'.out.mono ?_
  rintro e w8 ⟨rfl, hb8⟩
  have hb18 := hb17.trans (hb8.mono hz7)
  go_wp2_with fail
  (with_reducible refine (awake8_any w8).mono ?_)
  rintro e w9 ⟨rfl, hb9⟩
  go_wp2_with fail
  go_ret
  exact ⟨rfl, hb18.trans (hb9.mono hb18.size)⟩
end Go.Proofs.Ytcnkddoipmaddaa
