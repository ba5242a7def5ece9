/- The walks of the laws TransformTables, TransformKnown and TransformNone: they return true. -/
import Derived.Test.YtbajapjaejpcjaaAwk6
import Derived.Test.YtbajapjaejpcjaaArgs
namespace Go.Proofs.Ytbajapjaejpcjaa
open Go.RowKit
set_option linter.unusedVariables false

theorem case_zero (w : World) : Sem.run Try.prog (zeroValue 29) w = .ok (.agg #[.int .i64 0, .int .u32 0, .slice none 0 0, .slice none 0 0]) w := by kernel_rfl

set_option maxRecDepth 100000 in
set_option maxHeartbeats 1000000 in
theorem transformTables_any (n : Int) (q : Nat) (w : World) (hq : q ≤ 4294967295) : Calls Try.prog 3 #[.int .i64 n, .int .u32 q] w (RetV w (.bool true)) := by
  have z1 := case_zero
  go_enter Try.func3, Try.ntmps3
  go_wp2_with fail
  refine (made_any n q _ _ w hq).mono ?_
  rintro e w1 ⟨hb1, hh⟩
  have hz1 := hb1.size
  rcases hh with ⟨hno, rfl⟩ | ⟨k, b, ψ, s, b2, rfl, hok, rfl, _, _, hg, ht, hr⟩
  all_goals
    try clear hno
    try clear hok hg ht hr
    go_wp2_with fail
    (with_reducible refine (awake_any w1).mono ?_)
    rintro e w2 ⟨rfl, hb2⟩
    go_wp2_with fail
    go_ret
    exact ⟨rfl, hb1.trans (hb2.mono hz1)⟩

/-! ### no table -/
theorem box_alloc6 {W : World} {a : Addr} {v : Value} (o : Obj) (h : W.cell? a = some v) : (W.alloc o).cell? a = some v := cell_kept h (World.grownBy_alloc W o none) (fun r e => by cases e)
def NoTab (W : World) (p : Value) : Prop := p = .pointer none ∨ ∃ b, p = .pointer (some ⟨b, 0, none⟩) ∧ W.cell? ⟨b, 0, none⟩ = some (.int .i64 0) ∧ b < W.heap.size
theorem NoTab.below {W W' : World} {p : Value} {B : Nat} (h : NoTab W p) (hb : Below B W W') (hB : W.heap.size ≤ B) : NoTab W' p := by
  rcases h with h | ⟨b, h1, h2, h3⟩
  · exact .inl h
  · exact .inr ⟨b, h1, (hb.cell (p := ⟨b, 0, none⟩) (by show b < B; omega)).trans h2, Nat.lt_of_lt_of_le h3 hb.size⟩
theorem ntis (p : Value) (w : World) (h : NoTab w p) : Calls Try.prog 35 #[p] w (RetP w (.bool false)) := by
  rcases h with rfl | ⟨b, rfl, h, _⟩
  · exact tis_nil w
  · exact tis_no b w h
theorem ntroot (p : Value) (w : World) (h : NoTab w p) : Calls Try.prog 22 #[p] w (RetP w (.int .u32 0)) := by
  rcases h with rfl | ⟨b, rfl, h, _⟩
  · exact troot_nil w
  · exact troot_no b w h
theorem ntcheck (p l : Value) (w : World) (h : NoTab w p) : Calls Try.prog 25 #[p, l] w (RetP w (.int .i64 1)) := by
  have HI := Lib.hid (ntis p w h)
  clear h
  go_enter Try.func25, Try.ntmps25
  go_wp2_with fail
  (with_reducible refine HI.out.mono ?_)
  rintro e w1 ⟨rfl, hw1⟩
  subst hw1
  go_wp2_with fail
  go_ret
  exact ⟨rfl, rfl⟩
def RetNt (w : World) (e : Ending) (w' : World) : Prop := e = .returned (.tuple #[.slice none 0 0, .int .i64 1]) ∧ Below w.heap.size w w'
theorem ntfwd (p : Value) (A A' : Option Addr) (m c m' c' : Nat) (w : World) (h : NoTab w p) : Calls Try.prog 14 #[p, .slice A m c] w (RetNt w) := by
  have hb := (Below.refl w.heap.size w).alloc (Nat.le_refl _) (.cells #[.slice A m c] 27)
  have HI := Lib.hid (fun x => ntcheck p x _ (h.below hb (Nat.le_refl _)))
  clear h
  go_enter Try.func14, Try.ntmps14
  go_wp2_with fail
  (with_reducible refine (HI.out _).mono ?_)
  rintro e w1 ⟨rfl, hw1⟩
  subst hw1
  go_wp2_with fail
  go_ret2
  exact ⟨rfl, hb⟩
theorem ntinv (p : Value) (A A' : Option Addr) (m c m' c' : Nat) (w : World) (h : NoTab w p) : Calls Try.prog 15 #[p, .slice A m c] w (RetNt w) := by
  have hb := (Below.refl w.heap.size w).alloc (Nat.le_refl _) (.cells #[.slice A m c] 27)
  have HI := Lib.hid (fun x => ntcheck p x _ (h.below hb (Nat.le_refl _)))
  clear h
  go_enter Try.func15, Try.ntmps15
  go_wp2_with fail
  (with_reducible refine (HI.out _).mono ?_)
  rintro e w1 ⟨rfl, hw1⟩
  subst hw1
  go_wp2_with fail
  go_ret2
  exact ⟨rfl, hb⟩
theorem ntmul (p : Value) (A A' : Option Addr) (m c m' c' : Nat) (w : World) (h : NoTab w p) : Calls Try.prog 20 #[p, .slice A m c, .slice A' m' c'] w (RetNt w) := by
  have hb := (Below.refl w.heap.size w).alloc (Nat.le_refl _) (.cells #[.slice A m c, .slice A' m' c'] 27)
  have HI := Lib.hid (fun x => ntcheck p x _ (h.below hb (Nat.le_refl _)))
  clear h
  go_enter Try.func20, Try.ntmps20
  go_wp2_with fail
  (with_reducible refine (HI.out _).mono ?_)
  rintro e w1 ⟨rfl, hw1⟩
  subst hw1
  go_wp2_with fail
  go_ret2
  exact ⟨rfl, hb⟩

set_option maxRecDepth 100000 in
set_option maxHeartbeats 2000000 in
theorem transformNone_any (A A' : Option Addr) (m c m' c' : Nat) (w : World) : Calls Try.prog 6 #[.slice A m c, .slice A' m' c'] w (RetV w (.bool true)) := by
  have z1 := zc6_zero
  have z2 := zc6_ne
  have z3 := zc6_size
  have hc0 : (w.alloc (.cells zc6 42)).cell? ⟨w.heap.size, 0, none⟩ = some (.int .i64 0) := by rw [World.cell?_alloc_new]; exact zc6_get (i := 0) (by omega)
  have hz0 : (w.alloc (.cells zc6 42)).heap.size = w.heap.size + 1 := World.size_alloc _ _
  have hb0 := (Below.refl w.heap.size w).alloc (Nat.le_refl _) (.cells zc6 42)
  have HB : Hid (∃ w2, w2 = (w.alloc (.cells zc6 42)).alloc (.cells #[.pointer none, .pointer (some ⟨w.heap.size, 0, none⟩)] 23)) := Lib.hid ⟨_, rfl⟩
  have hb1 := hb0.alloc hb0.size (.cells #[.pointer none, .pointer (some ⟨w.heap.size, 0, none⟩)] 23)
  have k0 : ((w.alloc (.cells zc6 42)).alloc (.cells #[.pointer none, .pointer (some ⟨w.heap.size, 0, none⟩)] 23)).cell? ⟨w.heap.size + 1, 0, none⟩ = some (.pointer none) := by rw [← hz0, World.cell?_alloc_new]; rfl
  have k1 : ((w.alloc (.cells zc6 42)).alloc (.cells #[.pointer none, .pointer (some ⟨w.heap.size, 0, none⟩)] 23)).cell? ⟨w.heap.size + 1, 1, none⟩ = some (.pointer (some ⟨w.heap.size, 0, none⟩)) := by rw [← hz0, World.cell?_alloc_new]; rfl
  have hc1 : ((w.alloc (.cells zc6 42)).alloc (.cells #[.pointer none, .pointer (some ⟨w.heap.size, 0, none⟩)] 23)).cell? ⟨w.heap.size, 0, none⟩ = some (.int .i64 0) := box_alloc6 _ hc0
  have hz1 : ((w.alloc (.cells zc6 42)).alloc (.cells #[.pointer none, .pointer (some ⟨w.heap.size, 0, none⟩)] 23)).heap.size = w.heap.size + 2 := by rw [World.size_alloc, hz0]
  obtain ⟨w2, hw2⟩ := HB.out
  rw [← hw2] at hb1 k0 k1 hc1 hz1
  have HW2 := Lib.hid hw2
  have HALL := Lib.hid (And.intro hb1 (And.intro k0 (And.intro k1 (And.intro hc1 hz1))))
  clear HB hc0 hz0 hb0 hb1 k0 k1 hc1 hz1 hw2
  go_enter Try.func6, Try.ntmps6
  go_wp2_with fail
  rw [← HW2.out]
  clear z1 z2 z3
  go_loopw [6] (fun I wr => ∃ i : Nat, I = .int .i64 (i : Int) ∧ i ≤ 2 ∧ Below w2.heap.size w2 wr) (fun I _ => 2 - (intOf I).toNat)
  case atStart => exact ⟨0, rfl, Nat.zero_le _, Below.refl _ _⟩
  case round =>
    obtain ⟨i, rfl, hi2, hbl⟩ := hrel
    have hzr := hbl.size
    by_cases hin : i < 2
    · have hcell : ∃ p, NoTab wr p ∧ ∀ V, Below wr.heap.size wr V → V.cell? ⟨w.heap.size + 1, i, none⟩ = some p := by
        obtain ⟨_, k0, k1, hc1, hz1⟩ := HALL.out
        rcases (show i = 0 ∨ i = 1 by omega) with rfl | rfl
        · exact ⟨.pointer none, .inl rfl, fun V hV => ((hbl.trans (hV.mono hzr)).cell (p := ⟨w.heap.size + 1, 0, none⟩) (by show w.heap.size + 1 < _; omega)).trans k0⟩
        · exact ⟨.pointer (some ⟨w.heap.size, 0, none⟩), .inr ⟨_, rfl, (hbl.cell (p := ⟨w.heap.size, 0, none⟩) (by show w.heap.size < _; omega)).trans hc1, by omega⟩, fun V hV => ((hbl.trans (hV.mono hzr)).cell (p := ⟨w.heap.size + 1, 1, none⟩) (by show w.heap.size + 1 < _; omega)).trans k1⟩
      obtain ⟨p, hp, hpc⟩ := hcell
      have HP := Lib.hid hp
      have HPC := Lib.hid hpc
      have k1 := hpc wr (Below.refl _ _)
      clear hp hpc
      go_wp2_with fail
      (with_reducible refine (ntfwd p A A' m c m' c' wr HP.out).mono ?_)
      rintro e w3 ⟨rfl, hb3⟩
      have k1 := HPC.out w3 hb3
      have hz3 := hb3.size
      go_wp2_with fail
      (with_reducible refine (ntinv p A A' m c m' c' w3 (HP.out.below hb3 (Nat.le_refl _))).mono ?_)
      rintro e w4 ⟨rfl, hb4'⟩
      have hb4 := hb3.trans (hb4'.mono hz3)
      have k1 := HPC.out w4 hb4
      have hz4 := hb4.size
      go_wp2_with fail
      (with_reducible refine (ntmul p A A' m c m' c' w4 (HP.out.below hb4 (Nat.le_refl _))).mono ?_)
      rintro e w5 ⟨rfl, hb5'⟩
      have hb5 := hb4.trans (hb5'.mono hz4)
      have k1 := HPC.out w5 hb5
      have hz5 := hb5.size
      go_wp2_with fail
      (with_reducible refine (ntroot p w5 (HP.out.below hb5 (Nat.le_refl _))).mono ?_)
      rintro e w6 ⟨rfl, hw6⟩
      subst hw6
      go_wp2_with fail
      go_roundw
      case rel => exact ⟨i + 1, by go_num, hin, hbl.trans (hb5.mono hzr)⟩
      case measure => simp only [intOf]; omega
    · obtain rfl : i = 2 := by omega
      go_wp2_with fail
      (with_reducible refine (awake_any wr).mono ?_)
      rintro e w3 ⟨rfl, hb3⟩
      go_wp2_with fail
      go_ret
      obtain ⟨hb1, _, _, _, hz1⟩ := HALL.out
      exact ⟨rfl, hb1.trans ((hbl.trans (hb3.mono hzr)).mono (by omega))⟩

/-! ### the examples -/
theorem aw_s {s : Nat} (h : Cg 17 ((s : Int) * (4 : Nat)) 1) (hs : s < 17) : s = 13 := by
  have h1 : s * 4 % 17 = 1 := by
    have : Cg 17 ((s * 4 : Nat) : Int) ((1 : Nat) : Int) := by rw [Int.natCast_mul]; exact h
    exact Cg.nat.1 this
  omega
theorem aw_in {l : List Nat} (w : World) (hl : l.length = 4) (hle : ∀ x ∈ l, x ≤ 16) : Okl 4 17 4 (litF l) := ⟨rfl, fun j hj => by have := litF_le hle j; omega⟩
theorem aw_fwdl (w : World) (b s : Nat) (l r : List Nat) (hl : l.length = 4) (hle : ∀ x ∈ l, x ≤ 16) (hr : sameB 4 (fwd 17 4 2 (litF l)) 4 (litF r) = true) (hg : Good 4 17 2 s) (ht : Tb w b 4 17 (pwF 17 4 2) s) :
    Calls Try.prog 14 #[.pointer (some ⟨b, 0, none⟩), .slice (some ⟨w.heap.size, 0, none⟩) 4 4] (w.alloc (.cells (l.map fun (x : Nat) => Value.int .u32 (x : Int)).toArray 22)) (AwF w r) := by
  have s1 := sq_list .u32 w 22 0 (w.heap.size + 1) l (Nat.zero_le _) (Nat.lt_succ_self _)
  rw [hl] at s1
  have hb0 := (Below.refl w.heap.size w).alloc (Nat.le_refl _) (.cells (l.map fun (x : Nat) => Value.int .u32 (x : Int)).toArray 22)
  refine (forward_any b 4 17 2 s 4 4 0 (w.heap.size + 1) _ (litF l) _ hg (ht.below hb0 ht.lt) s1 (by omega) (fun i => by have := litF_le hle i; omega) (by simp)).mono fun e w' h => ?_
  obtain ⟨hb, h⟩ := h
  rcases h with ⟨hno, _⟩ | ⟨_, b', rfl, h1, h2⟩
  · exact absurd (aw_in w hl hle) hno
  · refine ⟨b', rfl, by simp at h1; omega, h2.congr fun j hj => ?_, hb0.trans (hb.mono (by simp))⟩
    simp only [ku]
    rw [(sameB_true.1 hr).2 j hj]
theorem aw_invl (w : World) (b : Nat) (l r : List Nat) (hl : l.length = 4) (hle : ∀ x ∈ l, x ≤ 16) (hr : sameB 4 (ivs 17 4 2 13 (litF l)) 4 (litF r) = true) (hg : Good 4 17 2 13) (ht : Tb w b 4 17 (pwF 17 4 2) 13) :
    Calls Try.prog 15 #[.pointer (some ⟨b, 0, none⟩), .slice (some ⟨w.heap.size, 0, none⟩) 4 4] (w.alloc (.cells (l.map fun (x : Nat) => Value.int .u32 (x : Int)).toArray 22)) (AwF w r) := by
  have s1 := sq_list .u32 w 22 0 (w.heap.size + 1) l (Nat.zero_le _) (Nat.lt_succ_self _)
  rw [hl] at s1
  have hb0 := (Below.refl w.heap.size w).alloc (Nat.le_refl _) (.cells (l.map fun (x : Nat) => Value.int .u32 (x : Int)).toArray 22)
  refine (inverse6_any b 4 17 2 13 4 4 0 (w.heap.size + 1) _ (litF l) _ hg (ht.below hb0 ht.lt) s1 (by omega) (fun i => by have := litF_le hle i; omega) (by simp)).mono fun e w' h => ?_
  obtain ⟨hb, h⟩ := h
  rcases h with ⟨hno, _⟩ | ⟨_, b', rfl, h1, h2⟩
  · exact absurd (aw_in w hl hle) hno
  · refine ⟨b', rfl, by simp at h1; omega, h2.congr fun j hj => ?_, hb0.trans (hb.mono (by simp))⟩
    simp only [ku]
    rw [(sameB_true.1 hr).2 j hj]
theorem not13 : ¬ NewOk 4 13 := fun h => absurd h.2.2.2 (by decide)
theorem not3 : ¬ NewOk 3 17 := fun h => absurd h.1 (by unfold dim6; decide)
theorem not64 : ¬ NewOk 64 257 := fun h => absurd h.1 (by unfold dim6; decide)

set_option maxRecDepth 100000 in
set_option maxHeartbeats 2000000 in
theorem transformKnown_any (w : World) : Calls Try.prog 10 #[] w (RetV w (.bool true)) := by
  have HN := Lib.hid (new_any 4 17 w (by omega))
  have HN1 := Lib.hid (fun V => new_any 4 13 V (by omega))
  have HN2 := Lib.hid (fun V => new_any 3 17 V (by omega))
  have HN3 := Lib.hid (fun V => new_any 64 257 V (by omega))
  go_enter Try.func10, Try.ntmps10
  go_wp2_with fail
  refine HN.out.mono ?_
  rintro e w1 ⟨hb1, hh⟩
  have hz1 := hb1.size
  rcases hh with ⟨hno, _⟩ | ⟨_, p, rfl, ht⟩
  · exact absurd aw_ok hno
  obtain ⟨b, ψ, s, rfl, hbg, hgood, htb, hle⟩ := new_open (n := 4) aw_ok ht
  obtain rfl : 2 = ψ := aw_least.uniq hle
  obtain rfl : s = 13 := aw_s hgood.sh hgood.sq
  have HG := Lib.hid hgood
  have HTB := Lib.hid htb
  clear ht hgood htb hle HN
  go_wp2_with fail
  refine (HN1.out w1).mono ?_
  rintro e w2 ⟨hb2, hh⟩
  rcases hh with ⟨_, rfl⟩ | ⟨hok, _⟩
  rotate_left
  · exact absurd hok not13
  have hb12 := hb1.trans (hb2.mono hz1)
  go_wp2_with fail
  refine (HN2.out w2).mono ?_
  rintro e w3 ⟨hb3, hh⟩
  rcases hh with ⟨_, rfl⟩ | ⟨hok, _⟩
  rotate_left
  · exact absurd hok not3
  have hb13 := hb12.trans (hb3.mono hb12.size)
  go_wp2_with fail
  refine (HN3.out w3).mono ?_
  rintro e w4 ⟨hb4, hh⟩
  rcases hh with ⟨_, rfl⟩ | ⟨hok, _⟩
  rotate_left
  · exact absurd hok not64
  have hb14 := hb13.trans (hb4.mono hb13.size)
  have hb24 : Below w1.heap.size w1 w4 := hb2.trans ((hb3.trans (hb4.mono hb3.size)).mono hb2.size)
  have hz24 := hb24.size
  have HTB4 := Lib.hid (HTB.out.below hb24 HTB.out.lt)
  clear HN1 HN2 HN3
  go_wp2_with fail
  refine (aw_fwdl w4 b 13 [1, 0, 0, 0] [1, 1, 1, 1] rfl (by decide) (by decide +kernel) HG.out HTB4.out).mono ?_
  rintro e w5 ⟨b5, rfl, hbg5, hr5, hb5⟩
  have hz5 := hb5.size
  have HTB5 := Lib.hid (HTB4.out.below hb5 HTB4.out.lt)
  have HR5 := Lib.hid hr5
  have hb15 := hb14.trans (hb5.mono hb14.size)
  clear hr5
  go_wp2_with fail
  refine (aw_invl w5 b [1, 1, 1, 1] [1, 0, 0, 0] rfl (by decide) (by decide +kernel) HG.out HTB5.out).mono ?_
  rintro e w6 ⟨b6, rfl, hbg6, hr6, hb6⟩
  have hz6 := hb6.size
  have HR56 := Lib.hid (rowIs_below HR5.out hb6 HR5.out.lt)
  have HR6 := Lib.hid hr6
  have hb16 := hb15.trans (hb6.mono hb15.size)
  clear hr6
  go_wp2_with fail
  refine (row_same w6 b5 4 _ [1, 1, 1, 1] _ (by decide) HR56.out (fun _ _ => rfl) rfl _ rfl).mono ?_
  rintro e w7 ⟨rfl, hb7⟩
  have hz7 := hb7.size
  have HR67 := Lib.hid (rowIs_below HR6.out hb7 HR6.out.lt)
  have hb17 := hb16.trans (hb7.mono hb16.size)
  go_wp2_with fail
  refine (row_same w7 b6 4 _ [1, 0, 0, 0] _ (by decide) HR67.out (fun _ _ => rfl) rfl _ rfl).mono ?_
  rintro e w8 ⟨rfl, hb8⟩
  have hb18 := hb17.trans (hb8.mono hb17.size)
  go_wp2_with fail
  (with_reducible refine (awake_any w8).mono ?_)
  rintro e w9 ⟨rfl, hb9⟩
  go_wp2_with fail
  go_ret
  exact ⟨rfl, hb18.trans (hb9.mono hb18.size)⟩
end Go.Proofs.Ytbajapjaejpcjaa
