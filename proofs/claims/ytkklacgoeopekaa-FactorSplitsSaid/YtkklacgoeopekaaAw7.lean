/- The contract of the law's own awake of layer 7. -/
import Derived.Test.YtkklacgoeopekaaFs7
import Derived.Test.YtkklacgoeopekaaRMod7
import Derived.Test.YtkklacgoeopekaaSqZ2
import Derived.Test.YtkklacgoeopekaaProduct
namespace Go.Proofs.Ytkklacgoeopekaa
open Go.RowKit
set_option linter.unusedVariables false

theorem w43 : wholeL 4 = [1, 0, 0, 0, 1] := by decide +kernel
theorem g43 : gL 3 2 (wholeL 4) 4 = [2, 2, 1] := by decide +kernel
theorem r43 : dmQ 3 (wholeL 4) (gL 3 2 (wholeL 4) 4) = [2, 1, 1] := by decide +kernel
theorem spl43 : SplT 3 2 (wholeL 4) [[2, 2, 1], [2, 1, 1]] :=
  SplT.node (wholeL 4) 4 [[2, 2, 1]] [[2, 1, 1]] (by decide +kernel) (by decide +kernel) (by decide) (fun j h1 h2 => by
    have : j = 3 ∨ j = 4 := by omega
    rcases this with rfl | rfl <;> decide +kernel) (fun j h1 h2 => by
    obtain rfl : j = 3 := by omega
    decide +kernel) (by decide +kernel) (by rw [g43]; exact .leaf _ rfl) (by rw [r43]; exact .leaf _ rfl)
theorem g25 : gL 5 1 (wholeL 2) 6 = [2, 1] := by decide +kernel
theorem r25 : dmQ 5 (wholeL 2) (gL 5 1 (wholeL 2) 6) = [3, 1] := by decide +kernel
theorem spl25 : SplT 5 1 (wholeL 2) [[2, 1], [3, 1]] :=
  SplT.node (wholeL 2) 6 [[2, 1]] [[3, 1]] (by decide +kernel) (by decide +kernel) (by decide) (fun j h1 h2 => by
    have : j = 5 ∨ j = 6 := by omega
    rcases this with rfl | rfl <;> decide +kernel) (fun j h1 h2 => by
    obtain rfl : j = 5 := by omega
    decide +kernel) (by decide +kernel) (by rw [g25]; exact .leaf _ rfl) (by rw [r25]; exact .leaf _ rfl)
theorem pr3 : Mr.Pr 3 := pr_lit (by omega) (by decide)
theorem pr5 : Mr.Pr 5 := pr_lit (by omega) (by decide)
theorem pr17 : Mr.Pr 17 := pr_lit (by omega) (by decide)
theorem dg43 : Dg 4 3 2 := ⟨by omega, by decide, fun e h1 h2 => by
  obtain rfl : e = 1 := by omega
  decide⟩
theorem dg25 : Dg 2 5 1 := ⟨by omega, by decide, fun e h1 h2 => by omega⟩
theorem fac43_any (w : World) : Calls Try.prog 12 #[.int .i64 4, .int .u32 3] w (RetF2 w [2, 1, 1] [2, 2, 1]) :=
  factors2_any 4 3 2 [2, 2, 1] [2, 1, 1] w (by omega) ⟨.inr (.inl rfl), ⟨by omega, by omega, pr3, by omega, by decide⟩⟩ dg43 (prB_yes pr3) (by omega) spl43 (by omega) (by decide) (by decide)
theorem fac25_any (w : World) : Calls Try.prog 12 #[.int .i64 2, .int .u32 5] w (RetF2 w [2, 1] [3, 1]) :=
  factors2_any 2 5 1 [2, 1] [3, 1] w (by omega) ⟨.inl rfl, ⟨by omega, by omega, pr5, by omega, by decide⟩⟩ dg25 (prB_yes pr5) (by omega) spl25 (by omega) (by decide) (by decide)
instance (p a e : Nat) : Decidable (Mr.U p a e) := by unfold Mr.U; infer_instance
theorem least17 : Least 17 8 2 := by
  refine ⟨ordr_of (by omega) (by decide) fun q hq hd hu => ?_, by omega, fun u hu ho => ?_⟩
  · have h2 := pr_two_pow hq 3 hd
    subst h2
    exact absurd hu (by decide)
  · rcases Nat.lt_or_ge u 2 with h1 | h1
    · exfalso
      have : u = 0 ∨ u = 1 := by omega
      rcases this with rfl | rfl
      · exact absurd ho.2.1 (by decide)
      · have := ho.2.2 1 (by decide)
        exact absurd (Nat.le_of_dvd (by omega) this) (by omega)
    · exact h1
theorem x155 {x : Nat} (h : FrIs 4 17 2 x) : x = 155 := by
  obtain ⟨ψ, hl, _, hlt, hx1, hx2, hx3⟩ := h
  obtain rfl : 2 = ψ := least17.uniq hl
  rw [pv_cyc (by omega)] at hx3
  have hj : x = 2 + 17 * (x / 17) := by omega
  have hj2 : x / 17 < 17 := by
    have : x < 289 := hx1
    omega
  obtain ⟨j, hjj⟩ : ∃ j, x / 17 = j := ⟨_, rfl⟩
  rw [hjj] at hj hj2
  subst hj
  have h4 : (1 + ((2 + 17 * j : Nat) : Int) ^ 4) % ((17 ^ 2 : Nat) : Int) = 0 := by
    obtain ⟨k, hk⟩ := hx3
    rw [Int.sub_zero] at hk
    rw [hk]
    exact Int.mul_emod_right _ _
  have key : ∀ i, i < 17 → (1 + ((2 + 17 * i : Nat) : Int) ^ 4) % ((17 ^ 2 : Nat) : Int) = 0 → 2 + 17 * i = 155 := by decide +kernel
  exact key j hj2 h4
theorem frok17 : FrOk 4 17 2 := ⟨⟨.inr (.inl rfl), ⟨by omega, by omega, pr17, by omega, by decide⟩⟩, ⟨by omega, by omega, pr17, by omega, by decide⟩, by decide⟩
theorem root17_any (w : World) : Calls Try.prog 10 #[.int .i64 4, .int .u32 17, .int .i64 2] w (RetV w (.tuple #[.int .u32 155, .int .i64 0])) :=
  (froot_any 4 17 2 w (by omega) (by omega)).mono fun e w' h => by
    obtain ⟨hb, hh⟩ := h
    rcases hh with ⟨hno, _⟩ | ⟨_, hne, _⟩ | ⟨_, x, hx, rfl⟩
    · exact absurd ⟨frok17.1, frok17.2.1⟩ hno
    · exact absurd (by decide : 17 % (2 * (4 : Int).toNat) = 1) hne
    · obtain rfl := x155 hx
      exact ⟨rfl, hb⟩
theorem same7_any (n nb ca cb : Nat) (A B : Option Addr) (a b : Nat → Nat) (w : World) (lo hi lo2 hi2 : Nat) (ha : Sq .u32 w lo hi A n a) (hb : Sq .u32 w lo2 hi2 B nb b) (hn : n ≤ 1000000) (hnb : nb ≤ 1000000) (hhi : hi ≤ w.heap.size) (hhi2 : hi2 ≤ w.heap.size) :
    Calls Try.prog 15 #[.slice A n ca, .slice B nb cb] w (RetV w (.bool (sameB n a nb b))) := by
  have HS := Lib.hid (same0_any n nb ca cb A B a b w lo hi lo2 hi2 ha hb hn hnb hhi hhi2)
  go_enter Try.func15, Try.ntmps15
  go_wp2_with fail
  refine HS.out.mono ?_
  rintro e w1 ⟨rfl, hb1⟩
  go_wp2
  go_ret
  exact ⟨rfl, hb1⟩
/-- a list in memory against a list that is written out -/
theorem same_l7 (A : Option Addr) (c lo : Nat) (l : List Nat) (w : World) (hl : l.length ≤ 1000) (h : LS w lo w.heap.size A l) (cs : Array Value) (hcs : cs = (l.map fun (x : Nat) => Value.int .u32 (x : Int)).toArray) (W : World) (hW : W = w.alloc (.cells cs 22)) :
    Calls Try.prog 15 #[.slice A l.length c, .slice (some ⟨w.heap.size, 0, none⟩) l.length l.length] W (fun e w' => e = .returned (.bool true) ∧ Below w.heap.size w w') := by
  subst hcs
  subst hW
  have hb1 := (Below.refl w.heap.size w).alloc (Nat.le_refl _) (.cells (l.map fun (x : Nat) => Value.int .u32 (x : Int)).toArray 22)
  have hs := same7_any l.length l.length c l.length A (some ⟨w.heap.size, 0, none⟩) (litF l) (litF l) _ lo _ 0 (w.heap.size + 1) (h.below hb1 (Nat.le_refl _)) (sq_list .u32 w 22 0 (w.heap.size + 1) l (Nat.zero_le _) (Nat.lt_succ_self _)) (by omega) (by omega) (by simp) (by simp)
  rw [sameB_refl] at hs
  exact hs.mono fun e w' h => ⟨h.1, hb1.trans (h.2.mono (by simp))⟩

set_option maxRecDepth 100000 in
set_option maxHeartbeats 4000000 in
theorem awake7_any (w : World) : Calls Try.prog 11 #[] w (RetV w (.bool true)) := by
  have HF := Lib.hid (fac43_any w)
  go_enter Try.func11, Try.ntmps11
  go_wp2_with fail
  refine HF.out.mono ?_
  rintro e w1 ⟨g, c, c0, c1, A0, A1, rfl, hg, k0, k1, h0, h1, hb1⟩
  have HR := Lib.hid (root17_any w1)
  have HB1 := Lib.hid hb1
  have HK := Lib.hid (And.intro k0 k1)
  have H0 := Lib.hid h0
  have H1 := Lib.hid h1
  clear hb1 k0 k1 h0 h1 HF
  go_wp2_with fail
  refine HR.out.mono ?_
  rintro e w2 ⟨rfl, hb2⟩
  have k0 := (hb2.cell (p := ⟨g, 0, none⟩) hg).trans HK.out.1
  have HL0 := Lib.hid (H0.out.next hb2)
  have HL1 := Lib.hid (H1.out.next hb2)
  have hz2 := hb2.size
  have HB2 := Lib.hid (HB1.out.trans (hb2.mono HB1.out.size))
  have HBB := Lib.hid hb2
  have HS0 := Lib.hid (same_l7 A0 c0 0 [2, 1, 1] w2 (by decide) HL0.out #[.int .u32 2, .int .u32 1, .int .u32 1] rfl _ rfl)
  clear hb2 HR
  go_wp2_with fail
  refine HS0.out.mono ?_
  rintro e w3 ⟨rfl, hb3⟩
  have k1 := (hb3.cell (p := ⟨g, 1, none⟩) (show g < w2.heap.size by omega)).trans ((HBB.out.cell (p := ⟨g, 1, none⟩) hg).trans HK.out.2)
  have HB3 := Lib.hid (HB2.out.trans (hb3.mono HB2.out.size))
  have HS1 := Lib.hid (same_l7 A1 c1 0 [2, 2, 1] w3 (by decide) (HL1.out.next hb3) #[.int .u32 2, .int .u32 2, .int .u32 1] rfl _ rfl)
  clear hb3 k0 HS0
  go_wp2_with fail
  refine HS1.out.mono ?_
  rintro e w4 ⟨rfl, hb4⟩
  have HB4 := Lib.hid (HB3.out.trans (hb4.mono HB3.out.size))
  clear hb4 k1 HS1
  go_wp2_with fail
  go_ret
  exact ⟨rfl, HB4.out⟩
end Go.Proofs.Ytkklacgoeopekaa
