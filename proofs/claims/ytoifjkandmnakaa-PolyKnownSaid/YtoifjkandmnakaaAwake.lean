/- The contract of the law's own awake: it returns true. -/
import Derived.Test.YtoifjkandmnakaaRDivMod
namespace Go.Proofs.Ytoifjkandmnakaa
open Go.RowKit

/-- a written-out list -/
def litF (l : List Nat) : Nat → Nat := fun j => l.getD j 0

theorem sq_list (k : IntKind) (w : World) (e lo hi : Nat) (l : List Nat) (hl : lo ≤ w.heap.size) (hh : w.heap.size < hi) :
    Sq k (w.alloc (.cells (l.map fun (x : Nat) => Value.int k (x : Int)).toArray e)) lo hi (some ⟨w.heap.size, 0, none⟩) l.length (litF l) :=
  sq_new (litF l) hl hh (fun j hj => by unfold litF; rw [List.getD_eq_getElem?_getD, List.getElem?_eq_none hj]; rfl) fun j hj => by
    rw [List.getElem?_toArray, List.getElem?_map, List.getElem?_eq_getElem hj]
    simp [litF, hj]

theorem Sq.fcongr {k : IntKind} {w : World} {lo hi n n' : Nat} {A : Option Addr} {f g : Nat → Nat} (h : Sq k w lo hi A n f) (hn : n = n') (hz : ∀ j, n ≤ j → g j = 0) (e : ∀ j, j < n → f j = g j) : Sq k w lo hi A n' g := by
  subst hn
  refine ⟨hz, fun hn => ?_⟩
  obtain ⟨b, off, e1, h1, h2, h3⟩ := h.2 hn
  exact ⟨b, off, e1, h1, h2, fun j hj => by rw [h3 j hj, e j hj]⟩

theorem litF_out {l : List Nat} {j : Nat} (h : l.length ≤ j) : litF l j = 0 := by unfold litF; rw [List.getD_eq_getElem?_getD, List.getElem?_eq_none h]; rfl

/-- a list that reads as F reads as the written-out list, if the two agree -/
theorem sq_lit {k : IntKind} {w : World} {lo hi n : Nat} {A : Option Addr} {F : Nat → Nat} (l : List Nat) (h : Sq k w lo hi A n F) (hb : sameB n F l.length (litF l) = true) : Sq k w lo hi A l.length (litF l) := by
  obtain ⟨h1, h2⟩ := sameB_true.1 hb
  exact h.fcongr h1 (fun j hj => litF_out (by omega)) h2

theorem awake_mul (w : World) : Calls Try.prog 24 #[.int .u32 17, .slice (some ⟨w.heap.size, 0, none⟩) 2 2, .slice (some ⟨w.heap.size + 1, 0, none⟩) 2 2]
    ((w.alloc (.cells #[.int .u32 1, .int .u32 1] 22)).alloc (.cells #[.int .u32 16, .int .u32 1] 22))
    (fun e w' => ∃ A c, e = .returned (.tuple #[.slice A 3 c, .int .i64 0]) ∧ Sq .u32 w' w.heap.size w'.heap.size A 3 (litF [16, 0, 1]) ∧ Below w.heap.size w w') := by
  have s1 : Sq .u32 (w.alloc (.cells #[.int .u32 1, .int .u32 1] 22)) 0 (w.heap.size + 1) (some ⟨w.heap.size, 0, none⟩) 2 (litF [1, 1]) := sq_list .u32 w 22 0 _ [1, 1] (Nat.zero_le _) (Nat.lt_succ_self _)
  have hb0 := (Below.refl w.heap.size w).alloc (Nat.le_refl _) (.cells #[.int .u32 1, .int .u32 1] 22)
  have hz : (w.alloc (.cells #[.int .u32 1, .int .u32 1] 22)).heap.size = w.heap.size + 1 := by simp
  generalize (w.alloc (.cells #[.int .u32 1, .int .u32 1] 22)) = W at *
  have s2 : Sq .u32 (W.alloc (.cells #[.int .u32 16, .int .u32 1] 22)) 0 (W.heap.size + 1) (some ⟨W.heap.size, 0, none⟩) 2 (litF [16, 1]) := sq_list .u32 W 22 0 _ [16, 1] (Nat.zero_le _) (Nat.lt_succ_self _)
  have hb1 := (Below.refl W.heap.size W).alloc (Nat.le_refl _) (.cells #[.int .u32 16, .int .u32 1] 22)
  have s1' := (s1.below hb1 (by omega)).wide (Nat.le_refl 0) (show w.heap.size + 1 ≤ W.heap.size + 1 by omega)
  rw [hz] at s1' s2
  refine (mul_any 17 2 2 2 2 _ _ _ _ _ 0 (w.heap.size + 1 + 1) s1' s2 (by omega) (by omega) (by simp; omega)).mono fun e w' h => ?_
  obtain ⟨A, c, rfl, h1, h2, h3⟩ := h
  have e1 : mlE 17 2 (litF [1, 1]) 2 (litF [16, 1]) = 0 := by decide +kernel
  have e2 : tl (mlF 17 2 (litF [1, 1]) 2 (litF [16, 1])) (2 + 2) = 3 := by decide +kernel
  have e3 : sameB 3 (mlF 17 2 (litF [1, 1]) 2 (litF [16, 1])) 3 (litF [16, 0, 1]) = true := by decide +kernel
  rw [e2] at h2
  rw [e1, e2]
  have hbel := hb0.trans ((hb1.trans (h3.mono (by simp))).mono (by omega))
  exact ⟨A, c, rfl, (sq_lit [16, 0, 1] h2 e3).wide (by simp; omega) (Nat.le_refl _), hbel⟩

theorem awake_div (w : World) : Calls Try.prog 18 #[.int .u32 17, .slice (some ⟨w.heap.size, 0, none⟩) 4 4, .slice (some ⟨w.heap.size + 1, 0, none⟩) 2 2]
    ((w.alloc (.cells #[.int .u32 2, .int .u32 0, .int .u32 0, .int .u32 1] 22)).alloc (.cells #[.int .u32 1, .int .u32 1] 22))
    (fun e w' => ∃ A c A2 c2, e = .returned (.tuple #[.slice A 3 c, .slice A2 1 c2, .int .i64 0]) ∧ Sq .u32 w' w.heap.size w'.heap.size A 3 (litF [1, 16, 1]) ∧ Sq .u32 w' w.heap.size w'.heap.size A2 1 (litF [1]) ∧ Below w.heap.size w w') := by
  have s1 : Sq .u32 (w.alloc (.cells #[.int .u32 2, .int .u32 0, .int .u32 0, .int .u32 1] 22)) 0 (w.heap.size + 1) (some ⟨w.heap.size, 0, none⟩) 4 (litF [2, 0, 0, 1]) := sq_list .u32 w 22 0 _ [2, 0, 0, 1] (Nat.zero_le _) (Nat.lt_succ_self _)
  have hb0 := (Below.refl w.heap.size w).alloc (Nat.le_refl _) (.cells #[.int .u32 2, .int .u32 0, .int .u32 0, .int .u32 1] 22)
  have hz : (w.alloc (.cells #[.int .u32 2, .int .u32 0, .int .u32 0, .int .u32 1] 22)).heap.size = w.heap.size + 1 := by simp
  generalize (w.alloc (.cells #[.int .u32 2, .int .u32 0, .int .u32 0, .int .u32 1] 22)) = W at *
  have s2 : Sq .u32 (W.alloc (.cells #[.int .u32 1, .int .u32 1] 22)) 0 (W.heap.size + 1) (some ⟨W.heap.size, 0, none⟩) 2 (litF [1, 1]) := sq_list .u32 W 22 0 _ [1, 1] (Nat.zero_le _) (Nat.lt_succ_self _)
  have hb1 := (Below.refl W.heap.size W).alloc (Nat.le_refl _) (.cells #[.int .u32 1, .int .u32 1] 22)
  have s1' := (s1.below hb1 (by omega)).wide (Nat.le_refl 0) (show w.heap.size + 1 ≤ W.heap.size + 1 by omega)
  rw [hz] at s1' s2
  refine (divmod_any 17 4 2 4 2 _ _ _ _ _ 0 (w.heap.size + 1 + 1) s1' s2 (by omega) (by omega) (by simp; omega)).mono fun e w' h => ?_
  obtain ⟨A, c, A2, c2, rfl, h1, h1', h2, h2', h3⟩ := h
  have e1 : dvE 17 4 (litF [2, 0, 0, 1]) 2 (litF [1, 1]) = 0 := by decide +kernel
  have e2 : tl (dvQ 17 4 (litF [2, 0, 0, 1]) 2 (litF [1, 1])) (dL 4 2) = 3 := by decide +kernel
  have e3 : sameB 3 (dvQ 17 4 (litF [2, 0, 0, 1]) 2 (litF [1, 1])) 3 (litF [1, 16, 1]) = true := by decide +kernel
  have e4 : tl (dvR 17 4 (litF [2, 0, 0, 1]) 2 (litF [1, 1])) 4 = 1 := by decide +kernel
  have e5 : sameB 1 (dvR 17 4 (litF [2, 0, 0, 1]) 2 (litF [1, 1])) 1 (litF [1]) = true := by decide +kernel
  rw [e2] at h2
  rw [e4] at h2'
  rw [e1, e2, e4]
  have hbel := hb0.trans ((hb1.trans (h3.mono (by simp))).mono (by omega))
  exact ⟨A, c, A2, c2, rfl, (sq_lit [1, 16, 1] h2 e3).wide (by simp; omega) (Nat.le_refl _), (sq_lit [1] h2' e5).wide (by simp; omega) (Nat.le_refl _), hbel⟩

/-- a list is what is written out in a new block -/
theorem same_lit (w : World) (A : Option Addr) (c lo : Nat) (l : List Nat) (cs : Array Value) (hl : l.length ≤ 1000) (h : Sq .u32 w lo w.heap.size A l.length (litF l)) (hcs : cs = (l.map fun (x : Nat) => Value.int .u32 (x : Int)).toArray) (W : World)
    (hW : W = w.alloc (.cells cs 22)) :
    Calls Try.prog 22 #[.slice A l.length c, .slice (some ⟨w.heap.size, 0, none⟩) l.length l.length] W (fun e w' => e = .returned (.bool true) ∧ Below w.heap.size w w') := by
  subst hcs
  subst hW
  have hb1 := (Below.refl w.heap.size w).alloc (Nat.le_refl _) (.cells (l.map fun (x : Nat) => Value.int .u32 (x : Int)).toArray 22)
  have hs := same_any l.length l.length c l.length A (some ⟨w.heap.size, 0, none⟩) (litF l) (litF l) _ lo _ 0 (w.heap.size + 1) (h.below hb1 (Nat.le_refl _)) (sq_list .u32 w 22 0 (w.heap.size + 1) l (Nat.zero_le _) (Nat.lt_succ_self _)) (by omega) (by omega) (by simp) (by simp)
  rw [sameB_refl] at hs
  exact hs.mono fun e w' h => ⟨h.1, hb1.trans (h.2.mono (by simp))⟩

set_option maxHeartbeats 1000000 in
theorem awake_any (w : World) : Calls Try.prog 16 #[] w (RetV w (.bool true)) := by
  go_enter Try.func16, Try.ntmps16
  go_wp2_with fail
  refine (awake_mul w).mono ?_
  rintro e w1 ⟨A1, c1, rfl, hs1, hb1⟩
  have H1 := Lib.hid hs1
  clear hs1
  go_wp2_with fail
  refine (awake_div w1).mono ?_
  rintro e w2 ⟨A2, c2, A3, c3, rfl, hs2, hs3, hb2⟩
  have H2 := Lib.hid hs2
  have H3 := Lib.hid hs3
  have hz1 := hb1.size
  have hz2 := hb2.size
  have H1' := Lib.hid ((H1.out.below hb2 (Nat.le_refl _)).wide (Nat.le_refl _) hz2)
  clear hs2 hs3
  go_wp2_with fail
  refine (same_lit w2 A1 c1 _ [16, 0, 1] _ (by decide) H1'.out rfl _ rfl).mono ?_
  rintro e w3 ⟨rfl, hb3⟩
  have hz3 := hb3.size
  have H2' := Lib.hid ((H2.out.below hb3 (Nat.le_refl _)).wide (Nat.le_refl _) hz3)
  have H3' := Lib.hid ((H3.out.below hb3 (Nat.le_refl _)).wide (Nat.le_refl _) hz3)
  go_wp2_with fail
  refine (same_lit w3 A2 c2 _ [1, 16, 1] _ (by decide) H2'.out rfl _ rfl).mono ?_
  rintro e w4 ⟨rfl, hb4⟩
  have hz4 := hb4.size
  have H3'' := Lib.hid ((H3'.out.below hb4 (Nat.le_refl _)).wide (Nat.le_refl _) hz4)
  go_wp2_with fail
  refine (same_lit w4 A3 c3 _ [1] _ (by decide) H3''.out rfl _ rfl).mono ?_
  rintro e w5 ⟨rfl, hb5⟩
  go_wp2
  go_ret
  exact ⟨rfl, hb1.trans ((hb2.trans ((hb3.trans ((hb4.trans (hb5.mono hz4)).mono hz3)).mono hz2)).mono hz1)⟩
end Go.Proofs.Ytoifjkandmnakaa
