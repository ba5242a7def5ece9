/- The contract of factor.Factors where there are two factors. -/
import Derived.Test.YtkklacgoeopekaaSw7
import Derived.Test.YtkklacgoeopekaaSs7
import Derived.Test.YtkklacgoeopekaaAlg
import Derived.Laws.EntriesVeiled
namespace Go.Proofs.Ytkklacgoeopekaa
open Go.RowKit Go.Shelf
set_option linter.unusedVariables false

theorem e32f : ElemOf Try.prog 34 22 .u32 4 := ⟨Try.underlying34, by kernel_rfl⟩
theorem box_third (w : World) (a b : Obj) (v : Value) (t : TypeId) : (((w.alloc a).alloc b).alloc (.cells #[v] t)).cell? ⟨w.heap.size + 1 + 1, 0, none⟩ = some v ∧ (((w.alloc a).alloc b).alloc (.cells #[v] t)).frozen? ⟨w.heap.size + 1 + 1, 0, none⟩ = false := by
  have h := box_new ((w.alloc a).alloc b) v t
  rw [World.size_alloc, World.size_alloc] at h
  exact h
theorem FrS.to_below {w w' : World} {ob B : Nat} {O O' : Value} (h : FrS w w' ob O O') (hB : B ≤ w.heap.size) (hbo : B ≤ ob) (hO : ∀ g, O.ownBlock = some g → B ≤ g) : Below B w w' where
  os := h.os
  tape := h.tape
  output := h.output
  size := h.size
  block := fun k hk => h.block k (by omega) (by omega) (fun e => by have := hO k e; omega)
theorem Dg.uniq {n p d e : Nat} (h : Dg n p d) (k : Dg n p e) : d = e := by
  rcases Nat.lt_trichotomy d e with h1 | h1 | h1
  · exact absurd h.2.1 (k.2.2 d h.1 h1)
  · exact h1
  · exact absurd k.2.1 (h.2.2 e k.1 h1)
def wholeF (n : Nat) : Nat → Nat := fun j => if j = n then 1 else if j = 0 then 1 else 0
def wholeL (n : Nat) : List Nat := toL (n + 1) (wholeF n)
def RetF2 (w : World) (s0 s1 : List Nat) (e : Ending) (w' : World) : Prop :=
  ∃ (g c c0 c1 : Nat) (A0 A1 : Option Addr), e = .returned (.tuple #[.slice (some ⟨g, 0, none⟩) 2 c, .int .i64 0]) ∧ g < w'.heap.size ∧ w'.cell? ⟨g, 0, none⟩ = some (.slice A0 s0.length c0) ∧ w'.cell? ⟨g, 1, none⟩ = some (.slice A1 s1.length c1) ∧
    LS w' 0 w'.heap.size A0 s0 ∧ LS w' 0 w'.heap.size A1 s1 ∧ Below w.heap.size w w'

set_option maxRecDepth 100000 in
set_option maxHeartbeats 40000000 in
theorem factors2_any (n p d : Nat) (f0 f1 : List Nat) (w : World) (hn : 1 ≤ n ∧ n ≤ 32) (hok : DgOk (n : Int) p) (hd : Dg n p d) (hp : prB p = true) (hp2 : 2 ≤ p ∧ p ≤ 65535) (ht : SplT p d (wholeL n) [f0, f1]) (hd5 : d ≤ 500) (b0 : f0.length ≤ 1000) (b1 : f1.length ≤ 1000) :
    Calls Try.prog 12 #[.int .i64 n, .int .u32 p] w (RetF2 w (if cmpL f1 f0 < 0 then f1 else f0) (if cmpL f1 f0 < 0 then f0 else f1)) := by
  have HDG := Lib.hid (fun W : World => degree_any (n : Int) p W (by omega))
  have HOK := Lib.hid hok
  have HD := Lib.hid hd
  have HT := Lib.hid ht
  have HN1 : Hid ((n : Int) + 1 = ((n + 1 : Nat) : Int)) := Lib.hid (by omega)
  obtain ⟨hn1, hn2⟩ := hn
  obtain ⟨hp3, hp4⟩ := hp2
  obtain ⟨s0, hs0⟩ : ∃ x, (if cmpL f1 f0 < 0 then f1 else f0) = x := ⟨_, rfl⟩
  obtain ⟨s1, hs1⟩ : ∃ x, (if cmpL f1 f0 < 0 then f0 else f1) = x := ⟨_, rfl⟩
  rw [hs0, hs1]
  have HS0 := Lib.hid hs0
  have HS1 := Lib.hid hs1
  clear hok hd ht hs0 hs1
  go_enter Try.func12, Try.ntmps12
  go_wp2_with fail
  refine (HDG.out _).mono ?_
  rintro e w1 ⟨hb1, hh⟩
  rcases hh with ⟨h, _⟩ | ⟨_, d', hd', rfl⟩
  · exact absurd HOK.out h
  obtain rfl : d' = d := Dg.uniq hd' HD.out
  have hz1 := hb1.size
  have HB1 := Lib.hid hb1
  have kp1 : w1.cell? ⟨w.heap.size, 0, none⟩ = some (.int .u32 (p : Int)) := (hb1.cell (p := ⟨w.heap.size, 0, none⟩) (by simp)).trans (box_new w _ _).1
  have kpz : w.heap.size < w1.heap.size := by simp at hz1; omega
  obtain ⟨x1, x2⟩ := box_third w1 (.cells #[.int .i64 (d' : Int)] 3) (.cells #[.slice none 0 0] 27) .nilFunc 50
  clear hb1 hd' HDG
  obtain ⟨FV, hFV⟩ : ∃ FV, FV = Value.func (.func 26) #[] #[.pointer (some ⟨w1.heap.size, 0, none⟩), .pointer (some ⟨w1.heap.size + 1, 0, none⟩), .pointer (some ⟨w.heap.size, 0, none⟩), .pointer (some ⟨w1.heap.size + 1 + 1, 0, none⟩)] := ⟨_, rfl⟩
  obtain ⟨w5, hw5⟩ : ∃ w5, w5 = (((w1.alloc (.cells #[.int .i64 (d' : Int)] 3)).alloc (.cells #[.slice none 0 0] 27)).alloc (.cells #[FV] 50)) := ⟨_, rfl⟩
  have hz5 : w5.heap.size = w1.heap.size + 3 := by rw [hw5]; simp
  have kd5 : w5.cell? ⟨w1.heap.size, 0, none⟩ = some (.int .i64 (d' : Int)) := by rw [hw5]; exact box_alloc _ (box_alloc _ (box_new w1 _ _).1)
  have ko5 : w5.heap[w1.heap.size + 1]? = some (.cells #[.slice none 0 0] 27 (0, 0)) := by
    rw [hw5]
    have h := World.alloc_heap_new (w1.alloc (.cells #[.int .i64 (d' : Int)] 3)) (.cells #[.slice none 0 0] 27)
    rw [World.size_alloc] at h
    exact (Below.heap_alloc _ _ _ (by simp)).trans h
  have ks5 : w5.cell? ⟨w1.heap.size + 1 + 1, 0, none⟩ = some FV := by rw [hw5]; exact (box_third w1 _ _ _ _).1
  have hb15 : Below w1.heap.size w1 w5 := by rw [hw5]; exact (((Below.refl _ w1).alloc (Nat.le_refl _) _).alloc (by simp) _).alloc (by simp; omega) _
  have kp5 := (hb15.cell (p := ⟨w.heap.size, 0, none⟩) kpz).trans kp1
  have HB15 := Lib.hid hb15
  have HZ5 := Lib.hid hz5
  have HKD := Lib.hid kd5
  have HKO := Lib.hid ko5
  have HKP := Lib.hid kp5
  have HKS := Lib.hid ks5
  rw [hFV] at hw5
  have HW5 := Lib.hid hw5
  have HFV := Lib.hid hFV
  have hne1 : ¬ w5.heap.size = w1.heap.size + 1 + 1 := by omega
  have hne2 : ¬ w1.heap.size + 1 + 1 = w5.heap.size := by omega
  clear hz5 kd5 ko5 ks5 hb15 kp5 hw5 kp1 hFV
  go_wp2_with (at_make; rw [← HW5.out]; refine wpl_make rfl _ _ _ rfl e32f .i64 .i64 _ _ (n + 1) rfl rfl HN1.out HN1.out (by omega) (by unfold maxLen; omega) ?_; intro w4 hr4 hb4 hs4; have q0 := hr4.cell (show 0 < n + 1 by omega); have q1 := hr4.cell (show n < n + 1 by omega); have g0 := hr4.frozen 0; have g1 := hr4.frozen n; have HR4 := Lib.hid hr4; have HB4 := Lib.hid hb4; have ks4 : w4.cell? ⟨w1.heap.size + 1 + 1, 0, none⟩ = some (.func (.func 26) #[] #[.pointer (some ⟨w1.heap.size, 0, none⟩), .pointer (some ⟨w1.heap.size + 1, 0, none⟩), .pointer (some ⟨w.heap.size, 0, none⟩), .pointer (some ⟨w1.heap.size + 1 + 1, 0, none⟩)]) := by { rw [← HFV.out]; exact (hb4.cell (p := ⟨w1.heap.size + 1 + 1, 0, none⟩) (show w1.heap.size + 1 + 1 < w5.heap.size by have := HZ5.out; omega)).trans HKS.out }; clear hr4 hb4)
  obtain ⟨w6, hw6⟩ : ∃ w6, w6 = (w4.setCell ⟨w5.heap.size, 0, none⟩ (.int .u32 1)).setCell ⟨w5.heap.size, n, none⟩ (.int .u32 1) := ⟨_, rfl⟩
  rw [← hw6]
  have hz5 := HZ5.out
  have hb6 : Below w5.heap.size w5 w6 := by rw [hw6]; exact (HB4.out.setCell (p := ⟨w5.heap.size, 0, none⟩) (Nat.le_refl _) _).setCell (p := ⟨w5.heap.size, n, none⟩) (Nat.le_refl _) _
  have hrow6 : w6.rowIs w5.heap.size 22 (n + 1) (ku .u32 (wholeF n)) := by
    rw [hw6]
    exact rowIs_set_ku (rowIs_set_ku HR4.out 0 1) n 1
  have hls6 : LS w6 0 w6.heap.size (some ⟨w5.heap.size, 0, none⟩) (wholeL n) := LS.of (Sq.of_row hrow6 (Nat.le_refl _) (Nat.zero_le _) hrow6.lt (fun j hj => by unfold wholeF; rw [if_neg (by omega), if_neg (by omega)]) fun _ _ => rfl)
  have hlen : (wholeL n).length = n + 1 := toL_len _ _
  have hcap6 : Caps w6 p d' w1.heap.size (w1.heap.size + 1) w.heap.size (w1.heap.size + 1 + 1) w5.heap.size := {
    cd := (hb6.cell (p := ⟨w1.heap.size, 0, none⟩) (show w1.heap.size < w5.heap.size by omega)).trans HKD.out
    cp := (hb6.cell (p := ⟨w.heap.size, 0, none⟩) (show w.heap.size < w5.heap.size by omega)).trans HKP.out
    cs := by rw [← HFV.out]; exact (hb6.cell (p := ⟨w1.heap.size + 1 + 1, 0, none⟩) (show w1.heap.size + 1 + 1 < w5.heap.size by omega)).trans HKS.out
    ld := ⟨by omega, by omega, by omega, by omega⟩
    ne := ⟨by omega, by omega, by omega⟩
    le := hb6.size }
  have hout6 : OutS w6 (w1.heap.size + 1) w5.heap.size [] (.slice none 0 0) (fun _ => none) (fun _ => 0) := {
    box := (hb6.block (w1.heap.size + 1) (by omega)).trans HKO.out
    row := World.ownsRow_nil w6 w5.heap.size 34 1
    el := fun j hj => absurd hj (Nat.not_lt_zero j)
    apart := fun j hj => absurd hj (Nat.not_lt_zero j) }
  have hfree6 : Free w6 (w1.heap.size + 1) (.slice none 0 0) (some ⟨w5.heap.size, 0, none⟩) := fun b off s e => by
    injection e with e
    injection e with e _ _
    subst e
    exact ⟨by omega, (fun e2 => by simp [Value.ownBlock] at e2), hrow6.lt⟩
  have hsp := split_any p d' w1.heap.size (w1.heap.size + 1) w.heap.size (w1.heap.size + 1 + 1) w5.heap.size hp ⟨hp3, hp4⟩ hd5 (wholeL n) [f0, f1] HT.out w6 (some ⟨w5.heap.size, 0, none⟩) (n + 1) [] (.slice none 0 0) (fun _ => none) (fun _ => 0) (by simp) hcap6 hout6 hls6 hfree6
  rw [hlen, List.nil_append] at hsp
  have HB06 : Hid (Below w.heap.size w w6) := Lib.hid ((((Below.refl _ w).alloc (Nat.le_refl _) _).trans (HB1.out.mono (by simp))).trans ((HB15.out.mono (by omega)).trans (hb6.mono (by omega))))
  have HSP := Lib.hid hsp
  clear hw6 hb6 hrow6 hls6 hlen hcap6 hout6 hfree6 hsp
  refine HSP.out.mono ?_
  rintro e w7 ⟨O', G', c', rfl, ho7, hf7⟩
  obtain ⟨Ao, co, rfl⟩ := own_value ho7.row
  have hrow7 := ho7.row
  rcases hrow7.2 with ⟨_, h0⟩ | ⟨g, cap, cur, hv, hgB, hh, _⟩
  · exact absurd h0 (by simp)
  injection hv with hv1 hv2 hv3
  subst hv1 hv3
  have kO : w7.cell? ⟨w1.heap.size + 1, 0, none⟩ = some (.slice (some ⟨g, 0, none⟩) 2 co) := (box_at ho7.box).1
  have r0 : w7.cell? ⟨g, 0, none⟩ = some (.slice (G' 0) f0.length (c' 0)) := by
    rw [hrow7.cellAt 0 (by simp)]
    rfl
  have r1 : w7.cell? ⟨g, 1, none⟩ = some (.slice (G' 1) f1.length (c' 1)) := by
    rw [hrow7.cellAt 1 (by simp)]
    rfl
  have hgw := (Array.getElem?_eq_some_iff.1 hh).1
  have HSR := Lib.hid (sort2_any g co (c' 0) (c' 1) (G' 0) (G' 1) f0 f1 w7 r0 r1 (hrow7.frozenAt 0) (hrow7.frozenAt 1) (ho7.el 0 (by simp)) (ho7.el 1 (by simp)) b0 b1)
  have HO7 := Lib.hid ho7
  have HB7 := Lib.hid (HB06.out.trans (hf7.to_below HB06.out.size (by omega) (fun q e => by simp [Value.ownBlock] at e)))
  clear ho7 hf7 hrow7 hh r0 r1 HSP
  go_wp2_with fail
  refine HSR.out.mono ?_
  rintro e w8 ⟨rfl, hgr, t0, t1⟩
  have hfr : FrS w7 w8 (w1.heap.size + 1) (.slice (some ⟨g, 0, none⟩) 2 co) (.slice (some ⟨g, 0, none⟩) 2 co) := ⟨hgr.os, hgr.tape, hgr.output, hgr.size, fun k hk h1 h2 => hgr.block k hk (fun e => h2 (by simp only [Value.ownBlock]; exact e.symm)), .inl rfl⟩
  have kO8 : w8.cell? ⟨w1.heap.size + 1, 0, none⟩ = some (.slice (some ⟨g, 0, none⟩) 2 co) := (World.cell?_of_block (a := ⟨w1.heap.size + 1, 0, none⟩) (hgr.block (w1.heap.size + 1) (by have := HO7.out.box; have := (Array.getElem?_eq_some_iff.1 this).1; omega) (fun e => by injection e with e; omega))).trans kO
  have HLA := Lib.hid (hfr.ls (HO7.out.el 0 (by simp)) (HO7.out.apart 0 (by simp)))
  have HLB := Lib.hid (hfr.ls (HO7.out.el 1 (by simp)) (HO7.out.apart 1 (by simp)))
  have HB8 := Lib.hid (HB7.out.trans ((Below.refl w.heap.size w7).grown hgr HB7.out.size (fun q e => by injection e with e; omega)))
  have HT0 := Lib.hid t0
  have HT1 := Lib.hid t1
  have hz8 := hgr.size
  clear t0 t1 hgr hfr HSR kO
  go_wp2_with fail
  go_ret2
  have e0 := HS0.out
  have e1 := HS1.out
  by_cases hz : cmpL f1 f0 < 0
  · rw [if_pos hz] at e0 e1
    subst e0 e1
    refine ⟨g, co, c' 1, c' 0, G' 1, G' 0, rfl, by omega, ?_, ?_, HLB.out, HLA.out, HB8.out⟩
    · rw [HT0.out, if_pos hz]
    · rw [HT1.out, if_pos hz]
  · rw [if_neg hz] at e0 e1
    subst e0 e1
    refine ⟨g, co, c' 0, c' 1, G' 0, G' 1, rfl, by omega, ?_, ?_, HLA.out, HLB.out, HB8.out⟩
    · rw [HT0.out, if_neg hz]
    · rw [HT1.out, if_neg hz]
end Go.Proofs.Ytkklacgoeopekaa
