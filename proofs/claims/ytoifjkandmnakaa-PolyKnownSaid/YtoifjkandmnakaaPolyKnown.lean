/- The walk of the law PolyKnown: the examples of the document. -/
import Derived.Test.YtoifjkandmnakaaInterp
import Derived.Test.YtoifjkandmnakaaPowMod
import Derived.Test.YtoifjkandmnakaaWrap
import Derived.Test.YtoifjkandmnakaaGcd
namespace Go.Proofs.Ytoifjkandmnakaa
open Go.RowKit
set_option linter.unusedVariables false

theorem lits1 (w W : World) (l1 : List Nat) (hW : W = w.alloc (.cells (l1.map fun (x : Nat) => Value.int .u32 (x : Int)).toArray 22)) :
    Sq .u32 W 0 W.heap.size (some ⟨w.heap.size, 0, none⟩) l1.length (litF l1) ∧ Below w.heap.size w W ∧ w.heap.size ≤ W.heap.size := by
  subst hW
  exact ⟨sq_list .u32 w _ _ _ l1 (Nat.zero_le _) (by rw [World.size_alloc]; omega), (Below.refl _ _).alloc (Nat.le_refl _) _, by rw [World.size_alloc]; omega⟩
theorem lits2 (w W : World) (l1 l2 : List Nat) (hW : W = (w.alloc (.cells (l1.map fun (x : Nat) => Value.int .u32 (x : Int)).toArray 22)).alloc (.cells (l2.map fun (x : Nat) => Value.int .u32 (x : Int)).toArray 22)) :
    Sq .u32 W 0 W.heap.size (some ⟨w.heap.size, 0, none⟩) l1.length (litF l1) ∧ Sq .u32 W 0 W.heap.size (some ⟨w.heap.size + 1, 0, none⟩) l2.length (litF l2) ∧ Below w.heap.size w W ∧ w.heap.size ≤ W.heap.size := by
  obtain ⟨a1, a2, a3⟩ := lits1 w _ l1 rfl
  have hz : (w.alloc (.cells (l1.map fun (x : Nat) => Value.int .u32 (x : Int)).toArray 22)).heap.size = w.heap.size + 1 := World.size_alloc _ _
  generalize w.alloc (.cells (l1.map fun (x : Nat) => Value.int .u32 (x : Int)).toArray 22) = w1 at *
  obtain ⟨b1, b2, b3⟩ := lits1 w1 W l2 hW
  rw [hz] at b1
  exact ⟨(a1.below b2 (Nat.le_refl _)).wide (Nat.le_refl _) b3, b1, a2.trans (b2.mono a3), by omega⟩

/-- what a call of an example leaves -/
def Kn (w : World) (n : Nat) (l : List Nat) (E : Int) (e : Ending) (w' : World) : Prop := ∃ A c, e = .returned (.tuple #[.slice A n c, .int .i64 E]) ∧ Sq .u32 w' w.heap.size w'.heap.size A n (litF l) ∧ Below w.heap.size w w'
theorem kn_of {w W w' : World} {n er : Nat} {F : Nat → Nat} {e : Ending} (hb : Below w.heap.size w W) (hz : w.heap.size ≤ W.heap.size) (h : RetSlE W n F er e w') (l : List Nat) (E : Nat) (h1 : sameB n F l.length (litF l) = true) (h2 : er = E) : Kn w l.length l E e w' := by
  obtain ⟨A, c, rfl, _, h3, h4⟩ := h
  have h5 := (sameB_true.1 h1).1
  subst h5 h2
  exact ⟨A, c, rfl, (sq_lit l h3 h1).wide hz (Nat.le_refl _), hb.trans (h4.mono hz)⟩
theorem kn_add (w W : World) (hW : W = (w.alloc (.cells #[.int .u32 1, .int .u32 16] 22)).alloc (.cells #[.int .u32 3, .int .u32 1] 22)) :
    Calls Try.prog 28 #[.int .u32 17, .slice (some ⟨w.heap.size, 0, none⟩) 2 2, .slice (some ⟨w.heap.size + 1, 0, none⟩) 2 2] W (Kn w 1 [4] 0) := by
  obtain ⟨s1, s2, hb, hz⟩ := lits2 w W [1, 16] [3, 1] hW
  exact (add_any 17 2 2 2 2 _ _ _ _ W 0 _ s1 s2 (by decide) (by decide) (Nat.le_refl _)).mono fun e w' h => kn_of hb hz h [4] 0 (by decide +kernel) (by decide +kernel)
theorem kn_sub (w W : World) (hW : W = (w.alloc (.cells #[.int .u32 0, .int .u32 1] 22)).alloc (.cells #[.int .u32 0, .int .u32 1] 22)) :
    Calls Try.prog 29 #[.int .u32 17, .slice (some ⟨w.heap.size, 0, none⟩) 2 2, .slice (some ⟨w.heap.size + 1, 0, none⟩) 2 2] W (Kn w 0 [] 0) := by
  obtain ⟨s1, s2, hb, hz⟩ := lits2 w W [0, 1] [0, 1] hW
  exact (psub_any 17 2 2 2 2 _ _ _ _ W 0 _ s1 s2 (by decide) (by decide) (Nat.le_refl _)).mono fun e w' h => kn_of hb hz h [] 0 (by decide +kernel) (by decide +kernel)
theorem kn_gcd (w W : World) (hW : W = (w.alloc (.cells #[.int .u32 16, .int .u32 0, .int .u32 1] 22)).alloc (.cells #[.int .u32 1, .int .u32 15, .int .u32 1] 22)) :
    Calls Try.prog 41 #[.int .u32 17, .slice (some ⟨w.heap.size, 0, none⟩) 3 3, .slice (some ⟨w.heap.size + 1, 0, none⟩) 3 3] W (Kn w 2 [16, 1] 0) := by
  obtain ⟨s1, s2, hb, hz⟩ := lits2 w W [16, 0, 1] [1, 15, 1] hW
  have hp : prB 17 = true := prB_yes (pr_lit (by omega) (by decide))
  have hE : gcE 17 3 (litF [16, 0, 1]) 3 (litF [1, 15, 1]) = 0 := by unfold gcE; rw [if_pos hp]; decide +kernel
  have hV : gcV 17 3 (litF [16, 0, 1]) 3 (litF [1, 15, 1]) = gcdF 17 3 (litF [16, 0, 1]) 3 (litF [1, 15, 1]) := by unfold gcV; rw [if_pos hE]
  refine (gcd_any 17 3 3 3 3 _ _ _ _ W s1 s2 (by decide) (by decide) (by decide)).mono fun e w' h => ?_
  unfold RetGc at h
  exact kn_of hb hz h [16, 1] 0 (by show sameB (gcV 17 3 (litF [16, 0, 1]) 3 (litF [1, 15, 1])).1 (gcV 17 3 (litF [16, 0, 1]) 3 (litF [1, 15, 1])).2 _ _ = true; rw [hV]; decide +kernel) hE
theorem kn_pow (w W : World) (hW : W = (w.alloc (.cells #[.int .u32 0, .int .u32 1] 22)).alloc (.cells #[.int .u32 1, .int .u32 0, .int .u32 1] 22)) :
    Calls Try.prog 33 #[.int .u32 17, .slice (some ⟨w.heap.size, 0, none⟩) 2 2, .int .u64 4, .slice (some ⟨w.heap.size + 1, 0, none⟩) 3 3] W (Kn w 1 [1] 0) := by
  obtain ⟨s1, s2, hb, hz⟩ := lits2 w W [0, 1] [1, 0, 1] hW
  exact (powmod_any 17 2 3 2 3 4 _ _ _ _ W s1 s2 (by decide) (by decide) (by decide)).mono fun e w' h => kn_of hb hz h [1] 0 (by decide +kernel) (by decide +kernel)
theorem kn_pow0 (w W : World) (hW : W = w.alloc (.cells #[.int .u32 1, .int .u32 0, .int .u32 1] 22)) :
    Calls Try.prog 33 #[.int .u32 17, .slice none 0 0, .int .u64 0, .slice (some ⟨w.heap.size, 0, none⟩) 3 3] W (Kn w 1 [1] 0) := by
  obtain ⟨s1, hb, hz⟩ := lits1 w W [1, 0, 1] hW
  exact (powmod_any 17 0 3 0 3 0 _ _ _ _ W (Sq.nil _ _ _ _ _) s1 (by decide) (by decide) (by decide)).mono fun e w' h => kn_of hb hz h [1] 0 (by decide +kernel) (by decide +kernel)
theorem kn_wrap (w W : World) (hW : W = w.alloc (.cells #[.int .u32 1, .int .u32 2, .int .u32 3, .int .u32 4, .int .u32 5] 22)) :
    Calls Try.prog 25 #[.int .u32 17, .slice (some ⟨w.heap.size, 0, none⟩) 5 5, .int .i64 2] W (Kn w 2 [3, 15] 0) := by
  obtain ⟨s1, hb, hz⟩ := lits1 w W [1, 2, 3, 4, 5] hW
  exact (wrap_any 17 5 5 2 _ _ W 0 _ s1 (by decide) (Nat.le_refl _)).mono fun e w' h => kn_of hb hz h [3, 15] 0 (by decide +kernel) (by decide +kernel)
theorem kn_mul (w W : World) (hW : W = (w.alloc (.cells #[.int .u32 0, .int .u32 2] 22)).alloc (.cells #[.int .u32 0, .int .u32 3] 22)) :
    Calls Try.prog 24 #[.int .u32 6, .slice (some ⟨w.heap.size, 0, none⟩) 2 2, .slice (some ⟨w.heap.size + 1, 0, none⟩) 2 2] W (Kn w 0 [] 0) := by
  obtain ⟨s1, s2, hb, hz⟩ := lits2 w W [0, 2] [0, 3] hW
  exact (mul_any 6 2 2 2 2 _ _ _ _ W 0 _ s1 s2 (by decide) (by decide) (Nat.le_refl _)).mono fun e w' h => kn_of hb hz h [] 0 (by decide +kernel) (by decide +kernel)
theorem kn_div (w W : World) (hW : W = (w.alloc (.cells #[.int .u32 0, .int .u32 1] 22)).alloc (.cells #[.int .u32 0, .int .u32 2] 22)) :
    Calls Try.prog 18 #[.int .u32 6, .slice (some ⟨w.heap.size, 0, none⟩) 2 2, .slice (some ⟨w.heap.size + 1, 0, none⟩) 2 2] W (fun e w' => ∃ A n c B k d, e = .returned (.tuple #[.slice A n c, .slice B k d, .int .i64 7]) ∧ Below w.heap.size w w') := by
  obtain ⟨s1, s2, hb, hz⟩ := lits2 w W [0, 1] [0, 2] hW
  refine (divmod_any 6 2 2 2 2 _ _ _ _ W 0 _ s1 s2 (by decide) (by decide) (Nat.le_refl _)).mono fun e w' h => ?_
  obtain ⟨A, c, B, d, rfl, _, _, _, _, h5⟩ := h
  have hE : dvE 6 2 (litF [0, 1]) 2 (litF [0, 2]) = 7 := by decide +kernel
  rw [hE]
  exact ⟨A, _, c, B, _, d, rfl, hb.trans (h5.mono hz)⟩

theorem kn_int (w W : World) (hW : W = (w.alloc (.cells #[.int .u32 0, .int .u32 1, .int .u32 2] 22)).alloc (.cells #[.int .u32 1, .int .u32 2, .int .u32 5] 22)) :
    Calls Try.prog 38 #[.int .u32 17, .slice (some ⟨w.heap.size, 0, none⟩) 3 3, .slice (some ⟨w.heap.size + 1, 0, none⟩) 3 3] W (Kn w 3 [1, 0, 1] 0) := by
  obtain ⟨s1, s2, hb, hz⟩ := lits2 w W [0, 1, 2] [1, 2, 5] hW
  refine (interp_any 17 3 3 3 3 _ _ (litF [0, 1, 2]) (litF [1, 2, 5]) W s1 s2 (by decide) (by decide) (by decide)).mono fun e w' h => ?_
  obtain ⟨A, c, E, k, f, rfl, hkc, hs, hip, hb2⟩ := h
  have hnb : ¬ IpBad 17 3 3 := by unfold IpBad; omega
  have hnv : ¬ IpVal 17 3 (litF [0, 1, 2]) (litF [1, 2, 5]) := fun ⟨j, hj, h⟩ => by
    match j, hj with
    | 0, _ => revert h; decide
    | 1, _ => revert h; decide
    | 2, _ => revert h; decide
  have hap : Apart 17 3 (litF [0, 1, 2]) := fun i k h1 h2 => by
    match i, k, h1, h2 with
    | 1, 0, _, _ => decide
    | 2, 0, _, _ => decide
    | 2, 1, _, _ => decide
  rcases hip with ⟨h, _⟩ | ⟨_, h, _⟩ | ⟨_, _, h, _⟩ | ⟨_, _, _, h, _⟩ | ⟨_, _, _, _, rfl, h1⟩
  · exact absurd h hnb
  · omega
  · exact absurd h hnv
  · exact absurd hap h
  · have h2 : Thr 17 3 (litF [0, 1, 2]) (litF [1, 2, 5]) 3 (litF [1, 0, 1]) := {
      rs := ⟨fun j => by
        match j with
        | 0 => decide
        | 1 => decide
        | 2 => decide
        | j + 3 => rw [show litF [1, 0, 1] (j + 3) = 0 from litF_out (by show 3 ≤ j + 3; omega)]; omega, fun j hj => litF_out hj⟩
      le := Nat.le_refl _
      to := by decide
      vo := fun t ht => by
        match t, ht with
        | 0, _ => decide
        | 1, _ => decide
        | 2, _ => decide }
    obtain ⟨e1, e2⟩ := h1.uniq (by omega) (fun j hj => Nat.lt_of_not_le fun h => hnv ⟨j, hj, .inl h⟩) hap h2
    subst e1 e2
    exact ⟨A, c, rfl, hs.wide hz (Nat.le_refl _), hb.trans (hb2.mono hz)⟩
theorem kn_int7 (w W : World) (hW : W = (w.alloc (.cells #[.int .u32 0, .int .u32 0] 22)).alloc (.cells #[.int .u32 1, .int .u32 1] 22)) :
    Calls Try.prog 38 #[.int .u32 17, .slice (some ⟨w.heap.size, 0, none⟩) 2 2, .slice (some ⟨w.heap.size + 1, 0, none⟩) 2 2] W (fun e w' => ∃ A k c, e = .returned (.tuple #[.slice A k c, .int .i64 7]) ∧ Below w.heap.size w w') := by
  obtain ⟨s1, s2, hb, hz⟩ := lits2 w W [0, 0] [1, 1] hW
  refine (interp_any 17 2 2 2 2 _ _ (litF [0, 0]) (litF [1, 1]) W s1 s2 (by decide) (by decide) (by decide)).mono fun e w' h => ?_
  obtain ⟨A, c, E, k, f, rfl, hkc, hs, hip, hb2⟩ := h
  have hnb : ¬ IpBad 17 2 2 := by unfold IpBad; omega
  have hnv : ¬ IpVal 17 2 (litF [0, 0]) (litF [1, 1]) := fun ⟨j, hj, h⟩ => by
    match j, hj with
    | 0, _ => revert h; decide
    | 1, _ => revert h; decide
  have hap : ¬ Apart 17 2 (litF [0, 0]) := fun h => by
    have := h 1 0 (by omega) (by omega)
    revert this
    decide
  rcases hip with ⟨h, _⟩ | ⟨_, h, _⟩ | ⟨_, _, h, _⟩ | ⟨_, _, _, _, rfl, rfl⟩ | ⟨_, _, _, h, _⟩
  · exact absurd h hnb
  · omega
  · exact absurd h hnv
  · exact ⟨A, 0, c, rfl, hb.trans (hb2.mono hz)⟩
  · exact absurd h hap

set_option maxRecDepth 100000 in
set_option maxHeartbeats 4000000 in
theorem polyKnown_any (w : World) : Calls Try.prog 14 #[] w (RetV w (.bool true)) := by
  go_enter Try.func14, Try.ntmps14
  go_wp2_with fail
  refine (kn_add w _ rfl).mono ?_
  rintro e w1 ⟨A1, c1, rfl, hs1, hb1⟩
  have z1 := hb1.size
  have S1 := Lib.hid hs1
  clear hs1
  go_wp2_with fail
  refine (kn_sub w1 _ rfl).mono ?_
  rintro e w2 ⟨A2, c2, rfl, hs2, hb2⟩
  have z2 := hb2.size
  go_wp2_with fail
  refine (kn_gcd w2 _ rfl).mono ?_
  rintro e w3 ⟨A3, c3, rfl, hs3, hb3⟩
  have z3 := hb3.size
  have S3 := Lib.hid hs3
  clear hs2 hs3
  go_wp2_with fail
  refine (kn_pow w3 _ rfl).mono ?_
  rintro e w4 ⟨A4, c4, rfl, hs4, hb4⟩
  have z4 := hb4.size
  have S4 := Lib.hid hs4
  clear hs4
  go_wp2_with fail
  refine (kn_pow0 w4 _ rfl).mono ?_
  rintro e w5 ⟨A5, c5, rfl, hs5, hb5⟩
  have z5 := hb5.size
  have S5 := Lib.hid hs5
  clear hs5
  go_wp2_with fail
  refine (kn_wrap w5 _ rfl).mono ?_
  rintro e w6 ⟨A6, c6, rfl, hs6, hb6⟩
  have z6 := hb6.size
  have S6 := Lib.hid hs6
  clear hs6
  go_wp2_with fail
  refine (kn_int w6 _ rfl).mono ?_
  rintro e w7 ⟨A7, c7, rfl, hs7, hb7⟩
  have z7 := hb7.size
  have S7 := Lib.hid hs7
  clear hs7
  go_wp2_with fail
  refine (kn_int7 w7 _ rfl).mono ?_
  rintro e w8 ⟨A8, k8, c8, rfl, hb8⟩
  have z8 := hb8.size
  go_wp2_with fail
  refine (kn_div w8 _ rfl).mono ?_
  rintro e w9 ⟨A9, n9, c9, B9, k9, d9, rfl, hb9⟩
  have z9 := hb9.size
  go_wp2_with fail
  refine (kn_mul w9 _ rfl).mono ?_
  rintro e w10 ⟨A10, c10, rfl, hs10, hb10⟩
  have z10 := hb10.size
  clear hs10
  have b9 := hb9.trans (hb10.mono z9)
  have b8 := hb8.trans (b9.mono z8)
  have b7 := hb7.trans (b8.mono z7)
  have b6 := hb6.trans (b7.mono z6)
  have b5 := hb5.trans (b6.mono z5)
  have b4 := hb4.trans (b5.mono z4)
  have b3 := hb3.trans (b4.mono z3)
  have b2 := hb2.trans (b3.mono z2)
  have b1 := hb1.trans (b2.mono z1)
  have T1 := Lib.hid ((S1.out.below b2 (Nat.le_refl _)).wide (Nat.zero_le _) b2.size)
  have T3 := Lib.hid ((S3.out.below b4 (Nat.le_refl _)).wide (Nat.zero_le _) b4.size)
  have T4 := Lib.hid ((S4.out.below b5 (Nat.le_refl _)).wide (Nat.zero_le _) b5.size)
  have T5 := Lib.hid ((S5.out.below b6 (Nat.le_refl _)).wide (Nat.zero_le _) b6.size)
  have T6 := Lib.hid ((S6.out.below b7 (Nat.le_refl _)).wide (Nat.zero_le _) b7.size)
  have T7 := Lib.hid ((S7.out.below b8 (Nat.le_refl _)).wide (Nat.zero_le _) b8.size)
  clear b2 b3 b4 b5 b6 b7 b8 b9 hb1 hb2 hb3 hb4 hb5 hb6 hb7 hb8 hb9 hb10 S1 S3 S4 S5 S6 S7
  go_wp2_with fail
  refine (same_lit w10 A1 c1 0 [4] _ (by decide) T1.out rfl _ rfl).mono ?_
  rintro e v1 ⟨rfl, g1⟩
  have y1 := g1.size
  go_wp2_with fail
  refine (same_lit v1 A3 c3 0 [16, 1] _ (by decide) ((T3.out.below g1 (Nat.le_refl _)).wide (Nat.le_refl _) y1) rfl _ rfl).mono ?_
  rintro e v2 ⟨rfl, g2'⟩
  have g2 := g1.trans (g2'.mono y1)
  have y2 := g2.size
  clear g2'
  go_wp2_with fail
  refine (same_lit v2 A4 c4 0 [1] _ (by decide) ((T4.out.below g2 (Nat.le_refl _)).wide (Nat.le_refl _) y2) rfl _ rfl).mono ?_
  rintro e v3 ⟨rfl, g3'⟩
  have g3 := g2.trans (g3'.mono y2)
  have y3 := g3.size
  clear g3'
  go_wp2_with fail
  refine (same_lit v3 A5 c5 0 [1] _ (by decide) ((T5.out.below g3 (Nat.le_refl _)).wide (Nat.le_refl _) y3) rfl _ rfl).mono ?_
  rintro e v4 ⟨rfl, g4'⟩
  have g4 := g3.trans (g4'.mono y3)
  have y4 := g4.size
  clear g4'
  go_wp2_with fail
  refine (same_lit v4 A6 c6 0 [3, 15] _ (by decide) ((T6.out.below g4 (Nat.le_refl _)).wide (Nat.le_refl _) y4) rfl _ rfl).mono ?_
  rintro e v5 ⟨rfl, g5'⟩
  have g5 := g4.trans (g5'.mono y4)
  have y5 := g5.size
  clear g5'
  go_wp2_with fail
  refine (same_lit v5 A7 c7 0 [1, 0, 1] _ (by decide) ((T7.out.below g5 (Nat.le_refl _)).wide (Nat.le_refl _) y5) rfl _ rfl).mono ?_
  rintro e v6 ⟨rfl, g6'⟩
  have g6 := g5.trans (g6'.mono y5)
  have y6 := g6.size
  clear g6'
  go_wp2_with fail
  refine (awake_any v6).mono ?_
  rintro e v7 ⟨rfl, g7⟩
  go_wp2
  go_ret
  exact ⟨rfl, b1.trans ((g6.trans (g7.mono y6)).mono (by omega))⟩
end Go.Proofs.Ytoifjkandmnakaa
