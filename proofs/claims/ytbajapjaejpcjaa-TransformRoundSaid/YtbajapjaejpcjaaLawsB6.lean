/- The walk of the law TransformRound: it returns true; words for the laws that get a case. -/
import Derived.Test.YtbajapjaejpcjaaLawsA6
import Derived.Test.YtbajapjaejpcjaaSqArg
namespace Go.Proofs.Ytbajapjaejpcjaa
open Go.RowKit
set_option linter.unusedVariables false

/-- a case in its box -/
structure Cx (W : World) (b : Nat) (n : Int) (q : Nat) (u v : Value) : Prop where
  c0 : W.cell? ⟨b, 0, none⟩ = some (.int .i64 n)
  c1 : W.cell? ⟨b, 1, none⟩ = some (.int .u32 q)
  c2 : W.cell? ⟨b, 2, none⟩ = some u
  c3 : W.cell? ⟨b, 3, none⟩ = some v
  lt : b < W.heap.size
theorem Cx.below {W W' : World} {b q B : Nat} {n : Int} {u v : Value} (h : Cx W b n q u v) (hb : Below B W W') (hB : b < B) : Cx W' b n q u v :=
  ⟨(hb.cell (p := ⟨b, 0, none⟩) hB).trans h.c0, (hb.cell (p := ⟨b, 1, none⟩) hB).trans h.c1, (hb.cell (p := ⟨b, 2, none⟩) hB).trans h.c2, (hb.cell (p := ⟨b, 3, none⟩) hB).trans h.c3, Nat.lt_of_lt_of_le h.lt hb.size⟩
theorem Cx.new (w : World) (n : Int) (q : Nat) (u v : Value) (t : TypeId) : Cx (w.alloc (.cells #[.int .i64 n, .int .u32 q, u, v] t)) w.heap.size n q u v :=
  ⟨by rw [World.cell?_alloc_new]; rfl, by rw [World.cell?_alloc_new]; rfl, by rw [World.cell?_alloc_new]; rfl, by rw [World.cell?_alloc_new]; rfl, by rw [World.size_alloc]; omega⟩
/-- a list that a call made is the one that came in -/
theorem same_row (b n c c' lo hi : Nat) (A : Option Addr) (F a : Nat → Nat) (w : World) (h : w.rowIs b 22 n (ku .u32 F)) (ha : Sq .u32 w lo hi A n a) (hF : ∀ j, j < n → F j = a j) (hn : n ≤ 1000) (hhi : hi ≤ w.heap.size) :
    Calls Try.prog 19 #[.slice (some ⟨b, 0, none⟩) n c, .slice A n c'] w (RetV w (.bool true)) := by
  have hsq : Sq .u32 w 0 w.heap.size (some ⟨b, 0, none⟩) n a := Sq.of_row h (Nat.le_refl _) (Nat.zero_le _) h.lt ha.1 hF
  have hs := same_any n n c c' (some ⟨b, 0, none⟩) A a a w 0 w.heap.size lo hi hsq ha (by omega) (by omega) (Nat.le_refl _) hhi
  rw [sameB_refl] at hs
  exact hs
theorem row_sq {w : World} {b n : Nat} {F : Nat → Nat} (h : w.rowIs b 22 n (ku .u32 F)) (hz : ∀ j, n ≤ j → F j = 0) : Sq .u32 w 0 w.heap.size (some ⟨b, 0, none⟩) n F :=
  Sq.of_row h (Nat.le_refl _) (Nat.zero_le _) h.lt hz fun _ _ => rfl

set_option maxRecDepth 100000 in
set_option maxHeartbeats 2000000 in
theorem transformRound_any (n : Int) (q m c : Nat) (A : Option Addr) (a : Nat → Nat) (v : Value) (w : World) (hq : q ≤ 4294967295) (ha : Sq .u32 w 0 w.heap.size A m a) (hm : m ≤ 9223372036854775807) (hab : ∀ j, a j ≤ 4294967295) :
    Calls Try.prog 7 #[.agg #[.int .i64 n, .int .u32 q, .slice A m c, v]] w (RetV w (.bool true)) := by
  have hcx := Cx.new w n q (.slice A m c) v 29
  have hb1 : Below w.heap.size w (w.alloc (.cells #[.int .i64 n, .int .u32 q, .slice A m c, v] 29)) := (Below.refl _ w).alloc (Nat.le_refl _) _
  obtain ⟨w1, hw1⟩ : ∃ w1, w1 = w.alloc (.cells #[.int .i64 n, .int .u32 q, .slice A m c, v] 29) := ⟨_, rfl⟩
  rw [← hw1] at hcx hb1
  have HW1 := Lib.hid hw1
  have HCX := Lib.hid hcx
  have HA := Lib.hid ha
  have HAB := Lib.hid hab
  have c0 := hcx.c0
  have c1 := hcx.c1
  have hz1 := hb1.size
  clear hw1 hcx ha hab
  go_enter Try.func7, Try.ntmps7
  repeat
    fail_if_success rw [← HW1.out]
    go_step
  rw [← HW1.out]
  go_wp2_with fail
  (with_reducible refine (new_any n q w1 hq).mono ?_)
  rintro e w2 ⟨hb2, hh⟩
  have hb12 := hb1.trans (hb2.mono hz1)
  have hz2 := hb12.size
  have HCX2 := Lib.hid (HCX.out.below hb2 HCX.out.lt)
  clear c0 c1
  rcases hh with ⟨hno, rfl⟩ | ⟨hok, p, rfl, ht⟩
  · clear hno
    go_wp2_with fail
    (with_reducible refine (awake_any w2).mono ?_)
    rintro e w3 ⟨rfl, hb3⟩
    go_wp2_with fail
    go_ret
    exact ⟨rfl, hb12.trans (hb3.mono hz2)⟩
  obtain ⟨k, rfl, _⟩ : ∃ k : Nat, n = (k : Int) ∧ True := by
    have := hok.1
    unfold dim6 at this
    exact ⟨n.toNat, by omega, trivial⟩
  rw [Int.toNat_natCast] at ht
  obtain ⟨b, ψ, s, rfl, hbg, hgood, htb, hle⟩ := new_open hok ht
  have HG := Lib.hid hgood
  have HT2 := Lib.hid htb
  have hk32 := hgood.nb
  have hq31 := hgood.q31
  have hq2 := hgood.rt.pr.1
  have c2 := HCX2.out.c2
  have HF := Lib.hid (forward_any b k q ψ s m c 0 w.heap.size A a w2 hgood htb (HA.out.below hb12 (Nat.le_refl _)) hm HAB.out hz2)
  clear hok ht hgood htb hle
  go_wp2_with fail
  refine HF.out.mono ?_
  rintro e w3 ⟨hb3, hh⟩
  have hb13 := hb12.trans (hb3.mono hz2)
  have hz3 := hb13.size
  have HCX3 := Lib.hid (HCX2.out.below hb3 HCX2.out.lt)
  have HT3 := Lib.hid (HT2.out.below hb3 HT2.out.lt)
  clear c2
  rcases hh with ⟨hno, rfl⟩ | ⟨hok, b3, rfl, hbg3, hr3⟩
  · clear hno
    go_wp2_with fail
    (with_reducible refine (awake_any w3).mono ?_)
    rintro e w4 ⟨rfl, hb4⟩
    go_wp2_with fail
    go_ret
    exact ⟨rfl, hb13.trans (hb4.mono hz3)⟩
  have HOK := Lib.hid hok
  have hmk := hok.1
  subst hmk
  have HR3 := Lib.hid hr3
  have hfq : ∀ j, fwd q m ψ a j < q := fun j => fwd_lt (by omega) j
  have HFQ := Lib.hid hfq
  have HI := Lib.hid (inverse6_any b m q ψ s m m 0 w3.heap.size _ (fwd q m ψ a) w3 HG.out HT3.out (row_sq hr3 fun j hj => fwd_out hj) hm (fun j => by have := HFQ.out j; omega) (Nat.le_refl _))
  clear hok hr3 hfq
  go_wp2_with fail
  refine HI.out.mono ?_
  rintro e w4 ⟨hb4, hh⟩
  have hb14 := hb13.trans (hb4.mono hz3)
  have hz4 := hb14.size
  have HCX4 := Lib.hid (HCX3.out.below hb4 HCX3.out.lt)
  have HT4 := Lib.hid (HT3.out.below hb4 HT3.out.lt)
  rcases hh with ⟨hno, _⟩ | ⟨_, b4, rfl, hbg4, hr4⟩
  · exact absurd ⟨rfl, fun j _ => HFQ.out j⟩ hno
  have HR4 := Lib.hid hr4
  have c2 := HCX4.out.c2
  have HI2 := Lib.hid (inverse6_any b m q ψ s m c 0 w.heap.size A a w4 HG.out HT4.out (HA.out.below hb14 (Nat.le_refl _)) hm HAB.out hz4)
  clear hr4
  go_wp2_with fail
  refine HI2.out.mono ?_
  rintro e w5 ⟨hb5, hh⟩
  have hb15 := hb14.trans (hb5.mono hz4)
  have hz5 := hb15.size
  have HCX5 := Lib.hid (HCX4.out.below hb5 HCX4.out.lt)
  have HT5 := Lib.hid (HT4.out.below hb5 HT4.out.lt)
  have HR45 := Lib.hid (rowIs_below HR4.out hb5 HR4.out.lt)
  rcases hh with ⟨hno, _⟩ | ⟨_, b5, rfl, hbg5, hr5⟩
  · exact absurd HOK.out hno
  have hvq : ∀ j, ivs q m ψ s a j < q := fun j => ivs_lt (by omega) j
  have HVQ := Lib.hid hvq
  have HF2 := Lib.hid (forward_any b m q ψ s m m 0 w5.heap.size _ (ivs q m ψ s a) w5 HG.out HT5.out (row_sq hr5 fun j hj => ivs_out hj) hm (fun j => by have := HVQ.out j; omega) (Nat.le_refl _))
  clear c2 hr5 hvq
  go_wp2_with fail
  refine HF2.out.mono ?_
  rintro e w6 ⟨hb6, hh⟩
  have hb16 := hb15.trans (hb6.mono hz5)
  have hz6 := hb16.size
  have HCX6 := Lib.hid (HCX5.out.below hb6 HCX5.out.lt)
  have HR46 := Lib.hid (rowIs_below HR45.out hb6 HR45.out.lt)
  rcases hh with ⟨hno, _⟩ | ⟨_, b6, rfl, hbg6, hr6⟩
  · exact absurd ⟨rfl, fun j _ => HVQ.out j⟩ hno
  have HR6 := Lib.hid hr6
  have c2 := HCX6.out.c2
  have HS1 := Lib.hid (same_row b4 m m c 0 w.heap.size A _ a w6 HR46.out (HA.out.below hb16 (Nat.le_refl _)) (fun j hj => ivs_fwd HG.out.rt HG.out.sh HOK.out.2 hj) (by omega) hz6)
  clear hr6
  go_wp2_with fail
  refine HS1.out.mono ?_
  rintro e w7 ⟨rfl, hb7⟩
  have hb17 := hb16.trans (hb7.mono hz6)
  have hz7 := hb17.size
  have HR67 := Lib.hid (rowIs_below HR6.out hb7 HR6.out.lt)
  have c2 := (HCX6.out.below hb7 HCX6.out.lt).c2
  have HS2 := Lib.hid (same_row b6 m m c 0 w.heap.size A _ a w7 HR67.out (HA.out.below hb17 (Nat.le_refl _)) (fun j hj => fwd_ivs HG.out.rt HG.out.sh HOK.out.2 hj) (by omega) hz7)
  go_wp2_with fail
  refine HS2.out.mono ?_
  rintro e w8 ⟨rfl, hb8⟩
  have hb18 := hb17.trans (hb8.mono hz7)
  go_wp2_with fail
  (with_reducible refine (awake_any w8).mono ?_)
  rintro e w9 ⟨rfl, hb9⟩
  go_wp2_with fail
  go_ret
  exact ⟨rfl, hb18.trans (hb9.mono hb18.size)⟩
end Go.Proofs.Ytbajapjaejpcjaa
