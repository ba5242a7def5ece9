/- The law FactorKnown of layer 7: the examples of the document. -/
import Derived.Test.YtkklacgoeopekaaAw7
import Derived.Test.YtkklacgoeopekaaSqZ2
namespace Go.Proofs.Ytkklacgoeopekaa
open Go.RowKit
set_option linter.unusedVariables false

theorem kdeg (n : Int) (p d : Nat) (h : DgOk n p) (hd : Dg n.toNat p d) (hp : p ≤ 4294967295) (w : World) : Calls Try.prog 16 #[.int .i64 n, .int .u32 p] w (RetV w (.tuple #[.int .i64 (d : Int), .int .i64 0])) :=
  (degree_any n p w hp).mono fun e w' ⟨hb, hh⟩ => by
    rcases hh with ⟨h1, _⟩ | ⟨_, d', hd', rfl⟩
    · exact absurd h h1
    · obtain rfl := Dg.uniq hd hd'
      exact ⟨rfl, hb⟩
theorem k417 (w : World) : Calls Try.prog 16 #[.int .i64 4, .int .u32 17] w (RetV w (.tuple #[.int .i64 1, .int .i64 0])) :=
  kdeg 4 17 1 frok17.1 ⟨by omega, by decide, fun e h1 h2 => by omega⟩ (by omega) w
theorem k43 (w : World) : Calls Try.prog 16 #[.int .i64 4, .int .u32 3] w (RetV w (.tuple #[.int .i64 2, .int .i64 0])) :=
  kdeg 4 3 2 ⟨.inr (.inl rfl), ⟨by omega, by omega, pr3, by omega, by decide⟩⟩ dg43 (by omega) w
theorem dg323 : Dg 32 3 16 := ⟨by omega, by decide +kernel, fun e h1 h2 => by
  have key : ∀ i, i < 16 → 1 ≤ i → 3 ^ i % (2 * 32) ≠ 1 := by decide +kernel
  exact key e h2 h1⟩
theorem k323 (w : World) : Calls Try.prog 16 #[.int .i64 32, .int .u32 3] w (RetV w (.tuple #[.int .i64 16, .int .i64 0])) :=
  kdeg 32 3 16 ⟨.inr (.inr (.inr (.inr rfl))), ⟨by omega, by omega, pr3, by omega, by decide⟩⟩ dg323 (by omega) w
theorem x2of {x : Nat} (h : FrIs 4 17 1 x) : x = 2 := by
  obtain ⟨ψ, hl, _, hlt, hx1, hx2, _⟩ := h
  obtain rfl : 2 = ψ := least17.uniq hl
  rw [Nat.pow_one] at hx1
  rw [Nat.mod_eq_of_lt hx1] at hx2
  exact hx2
theorem kroot1 (w : World) : Calls Try.prog 10 #[.int .i64 4, .int .u32 17, .int .i64 1] w (RetV w (.tuple #[.int .u32 2, .int .i64 0])) :=
  (froot_any 4 17 1 w (by omega) (by omega)).mono fun e w' h => by
    obtain ⟨hb, hh⟩ := h
    have hok : DgOk 4 17 ∧ Pl 17 1 := ⟨frok17.1, frok17.1.2⟩
    rcases hh with ⟨hno, _⟩ | ⟨_, hne, _⟩ | ⟨_, x, hx, rfl⟩
    · exact absurd hok hno
    · exact absurd (by decide : 17 % (2 * (4 : Int).toNat) = 1) hne
    · obtain rfl := x2of hx
      exact ⟨rfl, hb⟩
theorem kroot2 (w : World) : Calls Try.prog 10 #[.int .i64 4, .int .u32 3, .int .i64 1] w (RetV w (.tuple #[.int .u32 0, .int .i64 4])) :=
  (froot_any 4 3 1 w (by omega) (by omega)).mono fun e w' h => by
    obtain ⟨hb, hh⟩ := h
    have hpl : Pl 3 1 := ⟨by omega, by omega, pr3, by omega, by decide⟩
    have hok : DgOk 4 3 ∧ Pl 3 1 := ⟨⟨.inr (.inl rfl), hpl⟩, hpl⟩
    rcases hh with ⟨hno, _⟩ | ⟨_, _, rfl⟩ | ⟨h1, x, hx, rfl⟩
    · exact absurd hok hno
    · exact ⟨rfl, hb⟩
    · exact absurd h1.2.2 (by decide)
def litZ7 (l : List Int) : Nat → Int := fun j => l.getD j 0
theorem sq_litZ7 (w : World) (e : Nat) (l : List Int) : Si (w.alloc (.cells (l.map fun (x : Int) => Value.int .i64 x).toArray e)) 0 (w.alloc (.cells (l.map fun (x : Int) => Value.int .i64 x).toArray e)).heap.size (some ⟨w.heap.size, 0, none⟩) l.length (litZ7 l) :=
  ⟨fun j hj => by unfold litZ7; rw [List.getD_eq_getElem?_getD, List.getElem?_eq_none hj]; rfl, fun _ => ⟨w.heap.size, 0, rfl, Nat.zero_le _, by simp, fun j hj => by
    rw [Nat.zero_add, World.cell?_alloc_new, List.getElem?_toArray, List.getElem?_map, List.getElem?_eq_getElem hj]
    simp [litZ7, hj]⟩⟩
theorem pr7k : Mr.Pr 7 := pr_lit (by omega) (by decide)
theorem pl72 : Pl 7 2 := ⟨by omega, by omega, pr7k, by omega, by decide⟩
theorem lf10 {x : Nat} (h : Lf (litZ7 [-2, 0, 1]) 3 7 2 3 x) : x = 10 := by
  obtain ⟨hx1, hx2, hx3⟩ := h
  have hj : x = 3 + 7 * (x / 7) := by omega
  have hj2 : x / 7 < 7 := by
    have : x < 49 := hx1
    omega
  obtain ⟨j, hjj⟩ : ∃ j, x / 7 = j := ⟨_, rfl⟩
  rw [hjj] at hj hj2
  subst hj
  have h4 : pv (litZ7 [-2, 0, 1]) 3 ((3 + 7 * j : Nat) : Int) % ((7 ^ 2 : Nat) : Int) = 0 := by
    obtain ⟨k, hk⟩ := hx3
    rw [Int.sub_zero] at hk
    rw [hk]
    exact Int.mul_emod_right _ _
  have key : ∀ i, i < 7 → pv (litZ7 [-2, 0, 1]) 3 ((3 + 7 * i : Nat) : Int) % ((7 ^ 2 : Nat) : Int) = 0 → 3 + 7 * i = 10 := by decide +kernel
  exact key j hj2 h4
theorem klift1 (w W : World) (hW : W = w.alloc (.cells #[.int .i64 (-2), .int .i64 0, .int .i64 1] 2)) : Calls Try.prog 17 #[.slice (some ⟨w.heap.size, 0, none⟩) 3 3, .int .u32 7, .int .i64 2, .int .u32 3] W (RetV w (.tuple #[.int .u32 10, .int .i64 0])) := by
  subst hW
  have hs : Si _ _ _ _ _ _ := sq_litZ7 w 2 [-2, 0, 1]
  have hba := (Below.refl w.heap.size w).alloc (Nat.le_refl _) (.cells #[.int .i64 (-2), .int .i64 0, .int .i64 1] 2)
  refine (flift_any 3 3 7 3 0 _ 2 (some ⟨w.heap.size, 0, none⟩) (litZ7 [-2, 0, 1]) _ hs (by omega) (by omega) (by omega) (by omega) (Nat.le_refl _)).mono fun e w' h => ?_
  obtain ⟨hb, hh⟩ := h
  have hok : Pl 7 2 ∧ 3 < 7 := ⟨pl72, by omega⟩
  have hpre : LfPre (litZ7 [-2, 0, 1]) 3 7 3 := by constructor <;> decide +kernel
  rcases hh with ⟨h1, _⟩ | ⟨_, h1, _⟩ | ⟨_, _, h1, _⟩ | ⟨_, _, _, x, hx, rfl⟩
  · exact absurd hok h1
  · omega
  · exact absurd hpre h1
  · obtain rfl := lf10 hx
    exact ⟨rfl, hba.trans (hb.mono (by simp))⟩
theorem klift2 (w W : World) (hW : W = w.alloc (.cells #[.int .i64 0, .int .i64 0, .int .i64 1] 2)) : Calls Try.prog 17 #[.slice (some ⟨w.heap.size, 0, none⟩) 3 3, .int .u32 7, .int .i64 2, .int .u32 0] W (RetV w (.tuple #[.int .u32 0, .int .i64 4])) := by
  subst hW
  have hs : Si _ _ _ _ _ _ := sq_litZ7 w 2 [0, 0, 1]
  have hba := (Below.refl w.heap.size w).alloc (Nat.le_refl _) (.cells #[.int .i64 0, .int .i64 0, .int .i64 1] 2)
  refine (flift_any 3 3 7 0 0 _ 2 (some ⟨w.heap.size, 0, none⟩) (litZ7 [0, 0, 1]) _ hs (by omega) (by omega) (by omega) (by omega) (Nat.le_refl _)).mono fun e w' h => ?_
  obtain ⟨hb, hh⟩ := h
  have hok : Pl 7 2 ∧ 0 < 7 := ⟨pl72, by omega⟩
  have hpre : ¬ LfPre (litZ7 [0, 0, 1]) 3 7 0 := fun h => h.2 (by decide +kernel)
  rcases hh with ⟨h1, _⟩ | ⟨_, h1, _⟩ | ⟨_, _, _, rfl⟩ | ⟨_, _, h1, _⟩
  · exact absurd hok h1
  · omega
  · exact ⟨rfl, hba.trans (hb.mono (by simp))⟩
  · exact absurd h1 hpre

set_option maxRecDepth 100000 in
set_option maxHeartbeats 40000000 in
theorem factorKnown_any (w : World) : Calls Try.prog 4 #[] w (RetV w (.bool true)) := by
  have H1 := Lib.hid (k417 w)
  go_enter Try.func4, Try.ntmps4
  go_wp2_with fail
  refine H1.out.mono ?_
  rintro e w1 ⟨rfl, hb1⟩
  have HB1 := Lib.hid hb1
  clear hb1 H1
  go_wp2_with fail
  refine (k43 w1).mono ?_
  rintro e w2 ⟨rfl, hb2⟩
  have HB2 := Lib.hid (HB1.out.trans (hb2.mono HB1.out.size))
  clear hb2
  go_wp2_with fail
  refine (k323 w2).mono ?_
  rintro e w3 ⟨rfl, hb3⟩
  have HB3 := Lib.hid (HB2.out.trans (hb3.mono HB2.out.size))
  clear hb3
  go_wp2_with fail
  refine (fac25_any w3).mono ?_
  rintro e w4 ⟨g, c, c0, c1, A0, A1, rfl, hg, k0, k1, h0, h1, hb4⟩
  have HB4 := Lib.hid (HB3.out.trans (hb4.mono HB3.out.size))
  have HK := Lib.hid (And.intro k0 k1)
  have H0 := Lib.hid h0
  have H1 := Lib.hid h1
  clear hb4 k0 k1 h0 h1
  go_wp2_with fail
  refine (kroot1 w4).mono ?_
  rintro e w5 ⟨rfl, hb5⟩
  have HC5 := Lib.hid hb5
  clear hb5
  go_wp2_with fail
  refine (kroot2 w5).mono ?_
  rintro e w6 ⟨rfl, hb6⟩
  have HC6 := Lib.hid (HC5.out.trans (hb6.mono HC5.out.size))
  clear hb6
  go_wp2_with fail
  refine (klift1 w6 _ rfl).mono ?_
  rintro e w7 ⟨rfl, hb7⟩
  have HC7 := Lib.hid (HC6.out.trans (hb7.mono HC6.out.size))
  clear hb7
  go_wp2_with fail
  refine (klift2 w7 _ rfl).mono ?_
  rintro e w8 ⟨rfl, hb8⟩
  have HC8 := Lib.hid (HC7.out.trans (hb8.mono HC7.out.size))
  have hz8 := HC8.out.size
  have k0 := (HC8.out.cell (p := ⟨g, 0, none⟩) hg).trans HK.out.1
  have HL1 := Lib.hid (H1.out.next HC8.out)
  have HS0 := Lib.hid (same_l7 A0 c0 0 [2, 1] w8 (by decide) (H0.out.next HC8.out) #[.int .u32 2, .int .u32 1] rfl _ rfl)
  clear hb8
  go_wp2_with fail
  refine HS0.out.mono ?_
  rintro e w9 ⟨rfl, hb9⟩
  have k1 := (hb9.cell (p := ⟨g, 1, none⟩) (show g < w8.heap.size by omega)).trans ((HC8.out.cell (p := ⟨g, 1, none⟩) hg).trans HK.out.2)
  have HC9 := Lib.hid (HC8.out.trans (hb9.mono HC8.out.size))
  have HS1 := Lib.hid (same_l7 A1 c1 0 [3, 1] w9 (by decide) (HL1.out.next hb9) #[.int .u32 3, .int .u32 1] rfl _ rfl)
  clear hb9 k0 HS0
  go_wp2_with fail
  refine HS1.out.mono ?_
  rintro e w10 ⟨rfl, hb10⟩
  have HC10 := Lib.hid (HC9.out.trans (hb10.mono HC9.out.size))
  clear hb10 k1 HS1
  go_wp2_with fail
  refine (awake7_any w10).mono ?_
  rintro e w11 ⟨rfl, hb11⟩
  have HC11 := Lib.hid (HC10.out.trans (hb11.mono HC10.out.size))
  clear hb11
  go_wp2_with fail
  go_ret
  exact ⟨rfl, HB4.out.trans (HC11.out.mono HB4.out.size)⟩
end Go.Proofs.Ytkklacgoeopekaa
