/- The contract of primes.Chain: the walk, where the arguments fit. -/
import Derived.Test.YthepdpfiahcfmaaChainW
namespace Go.Proofs.Ythepdpfiahcfmaa
open Go.RowKit Go.Shelf Go.Sort
set_option linter.unusedVariables false
attribute [local go_sem] Oper.semAt_some

theorem C3.grow {w A B : World} {cnt E : Int} {r v : Value} {k : Nat} {xs : List Value} {tmp : Obj} (h : C3 w cnt r E A) (hrow : A.ownsRow w.heap.size 22 1 v k xs) (hg : (A.alloc tmp).grownBy B v.ownBlock) : C3 w cnt r E B where
  b0 := (h.b0.alloc tmp).kept hg (h.b0.not_row (by decide) hrow)
  b1 := (h.b1.alloc tmp).kept hg (h.b1.not_row (by decide) hrow)
  b2 := (h.b2.alloc tmp).kept hg (h.b2.not_row (by decide) hrow)
  bel := by
    refine (h.bel.alloc h.bel.size tmp).grown hg (by rw [World.size_alloc]; have := h.bel.size; omega) fun j ej => ?_
    rcases hrow.2 with ⟨rfl, _⟩ | ⟨g, cap, cur, rfl, hb, _, _⟩
    · simp [Value.ownBlock] at ej
    · obtain rfl : g = j := by simpa [Value.ownBlock] using ej
      exact hb
/-- what a round keeps -/
def KC (b0 b2 : Nat) (s : Int) (A B : World) : Prop := Below b0 A B ∧ (Boxed A b2 35 (.int .u64 s) → Boxed B b2 35 (.int .u64 s))
theorem KC.trans {b0 b2 : Nat} {s : Int} {A B C : World} (h : KC b0 b2 s A B) (k : KC b0 b2 s B C) : KC b0 b2 s A C := ⟨h.1.trans k.1, fun x => k.2 (h.2 x)⟩
theorem KC.put {b0 b2 n : Nat} {s : Int} (hn : b0 ≤ n) (W : World) (l : Nat) (o o' : Obj) (hl : n ≤ l) (hw : W.heap[l]? = some o) (hc : o.isCells = false) : KC b0 b2 s W (W.putObj l o') :=
  have hg := grownBy_putObj' W l o'
  ⟨(Below.refl b0 W).grown hg (by have := (Array.getElem?_eq_some_iff.1 hw).1; omega) (fun k e => by cases e; omega), fun x => x.kept hg (ne_row1 x fun r e => by cases e; exact ⟨o, hw, hc⟩)⟩

/-- the state of the search -/
def ChI (w : World) (cnt s K b2 : Nat) (pre : List W32) (W : World) : Prop :=
  ∃ l v, CS w (cnt : Int) l v (.slice none 0 0) 0 W ∧ l.length < cnt ∧ (CanF (dnF s K) pre → chl (dnF s K) pre.length = l ∧ ∀ i, i < pre.length → 1073741824 < dnF s K i) ∧ Boxed W b2 35 (.int .u64 (s : Int))
def ChX (w : World) (cnt s K : Nat) (c : Code) (pre : List W32) (W : World) : Prop :=
  (c = .ret ∧ ∃ l v, C3 w (cnt : Int) v 0 W ∧ W.ownsRow w.heap.size 22 1 v l.length (cw l) ∧ (CanF (dnF s K) pre → ChainR (dnF s K) K cnt l 0)) ∨
  (c = .exit 0 ∧ C3 w (cnt : Int) (.slice none 0 0) 0 W ∧ (CanF (dnF s K) pre → ChainR (dnF s K) K cnt [] 4))
theorem ChI.kept {w A B : World} {cnt s K b2 : Nat} {pre : List W32} {row : Option Nat} (h : ChI w cnt s K b2 pre A) (hg : A.grownBy B row) (hr : ∀ b, row = some b → w.heap.size ≤ b ∧ ∃ o : Obj, A.heap[b]? = some o ∧ o.isCells = false) : ChI w cnt s K b2 pre B := by
  obtain ⟨l, v, h1, h2, h3, h4⟩ := h
  exact ⟨l, v, h1.other hg hr, h2, h3, h4.kept hg (ne_row1 h4 fun r e => (hr r e).2)⟩
theorem ChX.kept {w A B : World} {cnt s K : Nat} {c : Code} {pre : List W32} {row : Option Nat} (h : ChX w cnt s K c pre A) (hg : A.grownBy B row) (hr : ∀ b, row = some b → w.heap.size ≤ b ∧ ∃ o : Obj, A.heap[b]? = some o ∧ o.isCells = false) : ChX w cnt s K c pre B := by
  rcases h with ⟨h0, l, v, h1, h2, h3⟩ | ⟨h0, h1, h2⟩
  · exact .inl ⟨h0, l, v, h1.other hg hr, own_other h2 hg fun r e => (hr r e).2, h3⟩
  · exact .inr ⟨h0, h1.other hg hr, h2⟩

set_option maxRecDepth 100000 in
set_option maxHeartbeats 4000000 in
theorem pchain_good (n cnt t : Nat) (w : World) (ht : t ≤ 2147483647) (hc1 : 1 ≤ cnt) (hc2 : cnt ≤ 25) (hn4 : 4 ≤ n) (hn32 : n ≤ 32) (hdim : dimB (n : Int) = true) (ht3 : 3 ≤ t) (htodd : t % 2 = 1) :
    Calls Try.prog 13 #[.int .i64 (n : Int), .int .u32 t, .int .i64 (cnt : Int)] w (RetCh w (ChR n t cnt)) := by
  obtain ⟨i0, hi, hz0, hz1, hz2⟩ := info_parts (P := Try.prog) (e := 22) (z := .int .u32 0) (size := 1) (bytes := 4) (by kernel_rfl)
  have hbx := C3.new w (cnt : Int) (.slice none 0 0) 0
  obtain ⟨w3, hw3⟩ : ∃ w3, w3 = (((w.alloc (.cells #[.int .i64 (cnt : Int)] 3)).alloc (.cells #[.slice none 0 0] 28)).alloc (.cells #[.int .i64 0] 23)) := ⟨_, rfl⟩
  rw [← hw3] at hbx
  have hz3 : w3.heap.size = w.heap.size + 3 := by rw [hw3, World.size_alloc, World.size_alloc, World.size_alloc]
  have k0 := hbx.b0.cell
  have HBX := Lib.hid hbx
  have HD := Lib.hid hdim
  have hngood : ¬ ChBad (n : Int) t (cnt : Int) := by unfold ChBad; rw [hdim]; simp; omega
  obtain ⟨s, hs⟩ : ∃ s, chS (n : Int) t = s := ⟨_, rfl⟩
  have hs' : 2 * n * t = s := hs
  have hsi : 2 * (n : Int) * (t : Int) = (s : Int) := by rw [← hs']; simp
  have hslo : 24 ≤ s := by rw [← hs']; exact Nat.mul_le_mul (show 8 ≤ 2 * n by omega) ht3
  have hshi : s ≤ 137438953408 := by rw [← hs']; exact Nat.mul_le_mul (show 2 * n ≤ 64 by omega) ht
  obtain ⟨K, hK⟩ : ∃ K, (2147483648 - 2) / s = K := ⟨_, rfl⟩
  have HFIN := Lib.hid (fun l E (h : ChainR (dnF s K) K cnt l E) => (Or.inr ⟨hngood, by unfold chK; rw [hs, show 2147483646 / s = K from hK]; exact h⟩ : ChR (n : Int) t (cnt : Int) l E))
  have HK := Lib.hid hK
  clear hbx hdim hngood hs hs' hK
  have q1 : decide ((t : Int) < 3) = false := decide_eq_false (by omega)
  have q2 : ((t : Int) % 2 == 0) = false := by simp; omega
  have q3 : decide ((t : Int) > 2147483647) = false := decide_eq_false (by omega)
  have q4 : decide ((cnt : Int) < 1) = false := decide_eq_false (by omega)
  have q5 : decide ((cnt : Int) > 25) = false := decide_eq_false (by omega)
  have q4' : ¬ cnt < 1 := by omega
  have q5' : ¬ 25 < cnt := by omega
  clear htodd
  refine calls_of_marks Try.func13 rfl ?_
  simp only [Try.ntmps13, List.size_toArray, List.length_cons, List.length_nil, Nat.reduceAdd, Nat.reduceSub, Array.replicate_succ, Array.replicate_zero, List.push_toArray, List.append_toArray, List.nil_append, List.cons_append]
  repeat
    fail_if_success rw [← hw3]
    go_step
  rw [← hw3]
  clear hw3
  go_wp2
  go_step3
  go_wp2_with fail
  (with_reducible refine (dim_b _ HD.out _).mono ?_)
  rintro e w4 ⟨rfl, hw4⟩
  subst hw4
  go_wp2_with fail
  go_step3
  obtain ⟨w5, hw5⟩ : ∃ w5, w5 = w3.alloc (.cells #[.slice none 0 0] 28) := ⟨_, rfl⟩
  have hz5 : w5.heap.size = w.heap.size + 4 := by rw [hw5, World.size_alloc, hz3]
  have hcs : CS w (cnt : Int) [] (.slice none 0 0) (.slice none 0 0) 0 w5 := by
    refine ⟨HBX.out.kept (row := none) (by rw [hw5]; exact World.grownBy_alloc _ _ _) (by simp), ?_, ?_⟩
    · have := Boxed.new w3 28 (.slice none 0 0)
      rw [hz3, ← hw5] at this
      exact this
    · exact World.ownsRow_nil _ _ _ _
  rw [← hw5]
  clear hw5 k0 HD
  have HCS := Lib.hid hcs
  have HZ5 := Lib.hid hz5
  clear hcs hz5 hz3
  go_wp2_with fail
  (with_reducible refine (down_any _ _ w5).mono ?_)
  rintro e w6 ⟨rfl, hw6⟩
  have k1 : w6.cell? ⟨w5.heap.size, 0, none⟩ = some (.int .u64 ((2147483648 : Nat) : Int)) := by rw [hw6]; exact box_alloc _ (box_new w5 _ _).1
  have k2 : Boxed w6 (w5.heap.size + 1) 35 (.int .u64 (s : Int)) := by
    rw [hw6]
    have := Boxed.new (w5.alloc (.cells #[.int .u64 2147483648] 35)) 35 (.int .u64 (s : Int))
    rwa [World.size_alloc] at this
  have hz6 : w6.heap.size = w5.heap.size + 2 := by rw [hw6, World.size_alloc, World.size_alloc]
  have hb6 : Below w5.heap.size w5 w6 := by rw [hw6]; exact ((Below.refl _ w5).alloc (Nat.le_refl _) _).alloc (by rw [World.size_alloc]; omega) _
  have HCS6 := Lib.hid (HCS.out.other (row := none) (below_grown hb6) (by simp))
  have HZ6 := Lib.hid hz6
  have HW6 := Lib.hid (show w.heap.size + 6 ≤ w6.heap.size by have := HZ5.out; omega)
  clear hw6 hz6 hb6
  go_wp2_with fail
  refine wp_rangeFunc_own (gf := 30) (lb := #[.pointer (some ⟨w5.heap.size, 0, none⟩), .pointer (some ⟨w5.heap.size + 1, 0, none⟩)]) rfl (enters_of Try.func30 (by kernel_rfl) rfl)
    (down_stops (Kp := KC w.heap.size (w5.heap.size + 1) (s : Int)) Fence.wide 8 trivial rfl (by omega) 2147483648 s K w5.heap.size (w5.heap.size + 1) w6 (fun _ _ h => h.2) (by rw [HZ6.out]; omega) (by rw [HZ6.out]; omega) (by omega) (by omega) (by omega) HK.out.symm k1 k2) KC.trans (fun W l o o' hl hw hc _ => KC.put (by have := HW6.out; omega) W l o o' hl hw hc) (Below.refl _ _) (fun _ => rfl)
    (ChI w cnt s K (w5.heap.size + 1)) (ChX w cnt s K)
    (fun t A B row hs hg hr => hs.kept hg fun b e => ⟨by have := (hr b e).1; have := HW6.out; omega, (hr b e).2⟩)
    (fun c t A B row hs hg hr => hs.kept hg fun b e => ⟨by have := (hr b e).1; have := HW6.out; omega, (hr b e).2⟩)
    ⟨[], _, HCS6.out, by show 0 < cnt; omega, fun _ => ⟨rfl, fun i hi => absurd hi (Nat.not_lt_zero i)⟩, k2⟩ ?ab ?done ?stop
  case ab =>
    apply Exists.intro
    refine ⟨?_, ?_⟩
    · intro l q W K hK
      simp only [encW]
      gi_wp2
      exact hK
    · rintro lr pre ⟨d, hd⟩ W ⟨l, v, hcs, hll, hcan, hbW⟩ hlen
      have hszW := hcs.c.bel.size
      have HCSW := Lib.hid hcs
      have HCAN := Lib.hid hcan
      have HBW := Lib.hid hbW
      have c8 := hcs.b3.cell
      have c5 := hcs.c.b0.cell
      have HPRI := Lib.hid (prime_any d W (by omega))
      clear hcs hcan hbW k1 k2
      simp only
      by_cases hlow : d ≤ 1073741824
      · have q6 : decide ((d : Int) ≤ 1073741824) = true := decide_eq_true (by omega)
        gi_wp2
        refine ⟨KeepsOthers.refl _, .inr ⟨rfl, HCSW.out.c, fun hc => ?_⟩⟩
        obtain ⟨h1, h2⟩ := hc.init
        obtain ⟨h3, h4⟩ := HCAN.out h1
        exact .inr ⟨pre.length, by omega, .inr (by rw [← h2]; exact hlow), h4, by rw [h3]; exact hll, rfl, rfl⟩
      · have q6 : decide ((d : Int) ≤ 1073741824) = false := decide_eq_false (by omega)
        have HUP := Lib.hid (fun (hc : CanF (dnF s K) (pre ++ [⟨d, hd⟩])) (i : Nat) (hi : i < pre.length + 1) => (by
          obtain ⟨h1, h2⟩ := hc.init
          rcases Nat.lt_or_ge i pre.length with h3 | h3
          · exact (HCAN.out h1).2 i h3
          · rw [show i = pre.length by omega, ← h2]
            exact Nat.lt_of_not_le hlow : 1073741824 < dnF s K i))
        obtain ⟨b, hb⟩ : ∃ b, prB d = b := ⟨_, rfl⟩
        rw [hb] at HPRI
        cases b
        · have hnp : ¬ Mr.Pr d := fun h => by rw [prB_yes h] at hb; cases hb
          have HNP := Lib.hid hnp
          clear hb hnp
          gi_wp2_with fail
          refine ⟨trivial, (CallsIn.inRound lr (callsIn_wide.2 HPRI.out)).mono ?_⟩
          rintro e w7 ⟨rfl, hb7⟩
          gi_wp2
          refine ⟨keeps_below hb7, ⟨hb7.mono hszW, fun k => boxed_below k hb7 k.lt⟩, l, v, HCSW.out.other (below_grown hb7) (by simp), hll, fun hc => ?_, boxed_below HBW.out hb7 HBW.out.lt⟩
          rw [List.length_append, List.length_singleton]
          obtain ⟨h1, h2⟩ := hc.init
          exact ⟨by rw [chl_no (by rw [← h2]; exact HNP.out)]; exact (HCAN.out h1).1, HUP.out hc⟩
        · have hpr := prB_true.1 hb
          have HNP := Lib.hid hpr
          clear hb hpr
          gi_wp2_with fail
          refine ⟨trivial, (CallsIn.inRound lr (callsIn_wide.2 HPRI.out)).mono ?_⟩
          rintro e w7 ⟨rfl, hb7⟩
          have hcs7 := HCSW.out.other (row := none) (below_grown hb7) (by simp)
          have hsz7 := hcs7.c.bel.size
          have c8 := hcs7.b3.cell
          have hrow := hcs7.row
          have HCS7 := Lib.hid hcs7
          have HB7 := Lib.hid (boxed_below HBW.out hb7 HBW.out.lt)
          have HCL := Lib.hid (fun (hc : CanF (dnF s K) (pre ++ [⟨d, hd⟩])) => (by
            obtain ⟨h1, h2⟩ := hc.init
            rw [chl_yes (by rw [← h2]; exact HNP.out), (HCAN.out h1).1, ← h2] : chl (dnF s K) (pre.length + 1) = l ++ [d]))
          clear hcs7
          by_cases hfull : l.length + 1 = cnt
          · have q7 : (((l.length : Nat) : Int) + 1 == (cnt : Int)) = true := by simp; omega
            have HFULL := Lib.hid hfull
            clear hfull
            gi_wp2_with (gi_at_builtin; refine wpListIn_append_own _ rfl _ _ 28 rfl w.heap.size 22 i0 (.int .u32 0) 1 4 Try.underlying28 hi hz0 hz1 hz2 rfl (by decide) _ _ _ rfl (hrow.alloc _) ⟨w7.heap.size, 0, none⟩ 1 1 [.int .u32 (d : Int)] rfl rfl (cell_one_new _ _ _) (by simp [Value.oneCell']) (by unfold maxLen; omega) (by omega) (by simp; omega) ?_; intro v' w8 hown' hgrow _; obtain ⟨g', cap', rfl⟩ := ownsRow_succ hown'; obtain ⟨hv1, hv2, hr2, hk2, hbb2⟩ := HCS7.out.b3.appended (by decide) hrow (by omega) (by omega) hown' hgrow; have hc1 := hv1.cell; have hf1 := hv1.frozen; have hC8 := HCS7.out.c.grow hrow hgrow; have hd0 := hC8.b0.cell; have hd1 := hC8.b1.cell; have hd2 := hC8.b2.cell; have he1 := hC8.b1.frozen; have he2 := hC8.b2.frozen)
            have hP := ((hC8.kept (grownBy_setCell' w8 (w.heap.size + 3) (.slice (some ⟨g', 0, none⟩) (l.length + 1) cap')) (by simp)).put (.slice (some ⟨g', 0, none⟩) (l.length + 1) cap') 0)
            refine ⟨(((keeps_below hb7).trans hk2).trans (KeepsOthers.setCell _ _ _)).trans (KeepsOthers.setCell _ _ _), .inl ⟨rfl, l ++ [d], _, hP, ?_, fun hc => ?_⟩⟩
            · rw [List.length_append, List.length_singleton, ← cw_snoc]
              have hx1 := hC8.b1.kept (grownBy_setCell' w8 (w.heap.size + 3) (.slice (some ⟨g', 0, none⟩) (l.length + 1) cap')) (by simp)
              have hr3 := hr2.kept (grownBy_setCell' _ (w.heap.size + 1) (.slice (some ⟨g', 0, none⟩) (l.length + 1) cap')) (.inr (hx1.not_row (by decide) hr2).symm)
              have hx2 := (hC8.b2.kept (grownBy_setCell' w8 (w.heap.size + 3) (.slice (some ⟨g', 0, none⟩) (l.length + 1) cap')) (by simp)).kept (grownBy_setCell' _ (w.heap.size + 1) (.slice (some ⟨g', 0, none⟩) (l.length + 1) cap')) (by simp)
              exact hr3.kept (grownBy_setCell' _ (w.heap.size + 2) (.int .i64 0)) (.inr (hx2.not_row (by decide) hr3).symm)
            · exact .inl ⟨pre.length + 1, by omega, HUP.out hc, HCL.out hc, by rw [List.length_append, List.length_singleton]; exact HFULL.out, rfl⟩
          · have q7 : (((l.length : Nat) : Int) + 1 == (cnt : Int)) = false := by simp; omega
            gi_wp2_with (gi_at_builtin; refine wpListIn_append_own _ rfl _ _ 28 rfl w.heap.size 22 i0 (.int .u32 0) 1 4 Try.underlying28 hi hz0 hz1 hz2 rfl (by decide) _ _ _ rfl (hrow.alloc _) ⟨w7.heap.size, 0, none⟩ 1 1 [.int .u32 (d : Int)] rfl rfl (cell_one_new _ _ _) (by simp [Value.oneCell']) (by unfold maxLen; omega) (by omega) (by simp; omega) ?_; intro v' w8 hown' hgrow _; obtain ⟨g', cap', rfl⟩ := ownsRow_succ hown'; obtain ⟨hv1, hv2, hr2, hk2, hbb2⟩ := HCS7.out.b3.appended (by decide) hrow (by omega) (by omega) hown' hgrow; have hc1 := hv1.cell; have hf1 := hv1.frozen; have hC8 := HCS7.out.c.grow hrow hgrow; have hd0 := hC8.b0.cell; have hd1 := hC8.b1.cell; have hd2 := hC8.b2.cell; have he1 := hC8.b1.frozen; have he2 := hC8.b2.frozen)
            refine ⟨(keeps_below hb7).trans hk2, ⟨(hb7.mono hszW).trans hbb2, fun k => ?_⟩, l ++ [d], _, ⟨hC8.kept (grownBy_setCell' w8 (w.heap.size + 3) _) (by simp), hv2, ?_⟩, by rw [List.length_append, List.length_singleton]; omega, fun hc => ?_, ?_⟩
            · exact (((boxed_below k hb7 k.lt).alloc _).kept hgrow ((boxed_below k hb7 k.lt).not_row (by decide) hrow)).kept (grownBy_setCell' w8 (w.heap.size + 3) _) (by have := HZ5.out; simp; omega)
            · rw [List.length_append, List.length_singleton, ← cw_snoc]
              exact hr2
            · rw [List.length_append, List.length_singleton]
              exact ⟨HCL.out hc, HUP.out hc⟩
            · exact ((HB7.out.alloc _).kept hgrow (HB7.out.not_row (by decide) hrow)).kept (grownBy_setCell' w8 (w.heap.size + 3) _) (by have := HZ5.out; simp; omega)
  case done =>
    rintro D ys W hD ⟨hcan, hlen⟩ ⟨l, v, hcs, hll, hl, hbW⟩ hKD
    have k1 := hcs.c.b1.cell
    have k2 := hcs.c.b2.cell
    have f1 := hcs.c.b1.frozen
    have f2 := hcs.c.b2.frozen
    have HC := Lib.hid hcs.c
    have hx := hl hcan
    rw [hlen] at hx
    have HX := Lib.hid hx
    have HKD := Lib.hid hKD
    clear hcs hl hx hbW hcan hlen hKD
    go_wp2_with fail
    have hp := HC.out.put (.slice none 0 0) 4
    have hK2 := (((KeepsOthers.setCell W ⟨w.heap.size + 1, 0, none⟩ (.slice none 0 0)).trans (KeepsOthers.setCell _ ⟨w.heap.size + 2, 0, none⟩ (.int .i64 4))).same D _ HKD.out rfl)
    have d1 := box_shut hp.b1.cell hK2
    have d2 := box_shut hp.b2.cell hK2
    try rw [Exit.noGoto_ret]
    exact marks_end1 rfl hK2 (.tuple #[.slice none 0 0, .int .i64 4]) (by simp [results, Try.f13, go_sem, d1, d2]) ⟨none, 0, [], 4, rfl, Nat.le_refl _, Wl.nil _ _ _ _, HFIN.out _ _ (.inr ⟨K, Nat.le_refl _, .inl rfl, HX.out.2, by rw [HX.out.1]; exact hll, rfl, rfl⟩), below_shut hp.bel (by have := HW6.out; omega) hK2⟩
  case stop =>
    rintro D c pre W hD hcan hx hKD
    rcases hx with ⟨rfl, l, v, hC, hrow, hR⟩ | ⟨rfl, hC, hR⟩
    · have hRR := hR hcan
      obtain ⟨A, c, rfl, hlc, hwl⟩ := wl_of rfl (ownsRow_putObj hrow (.deferred none) hKD rfl)
      have d1 := box_shut hC.b1.cell hKD
      have d2 := box_shut hC.b2.cell hKD
      have HRR := Lib.hid hRR
      have HWL := Lib.hid hwl
      clear hR hRR hwl hrow
      go_wp2
      try rw [Exit.noGoto_ret]
      exact marks_end1 rfl hKD (.tuple #[.slice A l.length c, .int .i64 0]) (by simp [results, Try.f13, go_sem, d1, d2]) ⟨A, c, l, 0, rfl, hlc, HWL.out, HFIN.out _ _ HRR.out, below_shut hC.bel (by have := HW6.out; omega) hKD⟩
    · have k1 := hC.b1.cell
      have k2 := hC.b2.cell
      have f1 := hC.b1.frozen
      have f2 := hC.b2.frozen
      have hRR := hR hcan
      have HC := Lib.hid hC
      have HRR := Lib.hid hRR
      have HKD := Lib.hid hKD
      clear hR hRR hC hKD hcan
      go_wp2_with fail
      have hp := HC.out.put (.slice none 0 0) 4
      have hK2 := (((KeepsOthers.setCell W ⟨w.heap.size + 1, 0, none⟩ (.slice none 0 0)).trans (KeepsOthers.setCell _ ⟨w.heap.size + 2, 0, none⟩ (.int .i64 4))).same D _ HKD.out rfl)
      have d1 := box_shut hp.b1.cell hK2
      have d2 := box_shut hp.b2.cell hK2
      try rw [Exit.noGoto_ret]
      exact marks_end1 rfl hK2 (.tuple #[.slice none 0 0, .int .i64 4]) (by simp [results, Try.f13, go_sem, d1, d2]) ⟨none, 0, [], 4, rfl, Nat.le_refl _, Wl.nil _ _ _ _, HFIN.out _ _ HRR.out, below_shut hp.bel (by have := HW6.out; omega) hK2⟩
end Go.Proofs.Ythepdpfiahcfmaa
