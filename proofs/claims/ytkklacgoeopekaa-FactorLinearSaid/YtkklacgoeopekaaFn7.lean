/- The contract of factor.Factors, whatever the splitting. -/
import Derived.Test.YtkklacgoeopekaaFs7
import Derived.Test.YtkklacgoeopekaaSn7
namespace Go.Proofs.Ytkklacgoeopekaa
open Go.RowKit Go.Shelf
set_option linter.unusedVariables false

/-- the factors, in some order -/
def RetFs (w : World) (L : List (List Nat)) (e : Ending) (w' : World) : Prop :=
  ∃ (g c : Nat) (M : List (List Nat)) (H : Nat → Option Addr) (cc : Nat → Nat), e = .returned (.tuple #[.slice (some ⟨g, 0, none⟩) M.length c, .int .i64 0]) ∧ g < w'.heap.size ∧ M.Perm L ∧ (∀ i j, i < j → j < M.length → ¬ cmpL (M.getD j []) (M.getD i []) < 0) ∧ (∀ j, j < M.length → w'.cell? ⟨g, j, none⟩ = some (.slice (H j) (lnL M j) (cc j))) ∧
    (∀ j, j < M.length → LS w' 0 w'.heap.size (H j) (M.getD j [])) ∧ Below w.heap.size w w'

set_option maxRecDepth 100000 in
set_option maxHeartbeats 40000000 in
theorem cfactors_any (n p d : Nat) (L : List (List Nat)) (w : World) (hn : 1 ≤ n ∧ n ≤ 32) (hok : DgOk (n : Int) p) (hd : Dg n p d) (hp : prB p = true) (hp2 : 2 ≤ p ∧ p ≤ 65535) (ht : SplT p d (wholeL n) L) (hd5 : d ≤ 500) (hL : ∀ j, lnL L j ≤ 1000) (hLn : 0 < L.length ∧ L.length ≤ 1000) :
    Calls Try.prog 12 #[.int .i64 n, .int .u32 p] w (RetFs w L) := by
  have HDG := Lib.hid (fun W : World => degree_any (n : Int) p W (by omega))
  have HOK := Lib.hid hok
  have HD := Lib.hid hd
  have HT := Lib.hid ht
  have HN1 : Hid ((n : Int) + 1 = ((n + 1 : Nat) : Int)) := Lib.hid (by omega)
  obtain ⟨hn1, hn2⟩ := hn
  obtain ⟨hp3, hp4⟩ := hp2
  have HL := Lib.hid hL
  obtain ⟨hL0, hL1⟩ := hLn
  clear hok hd ht hL
  go_enter Try.func12, Try.ntmps12
  go_wp2_with fail
  refine (HDG.out _).mono ?_
  rintro e w1 ⟨hb1, hh⟩
  rcases hh with ⟨h, _⟩ | ⟨_, d', hd', rfl⟩
  · exact absurd HOK.out h
  obtain rfl : d' = d := Dg.uniq hd' HD.out
  have hz1 := hb1.size
  have HB1 := Lib.hid hb1
  have kp1 : w1.cell? ⟨w.heap.size, 0, none⟩ = some (.int .u32 (p : Int)) := (hb1.cell (p := ⟨w.heap.size, 0, none⟩) (by simp)).trans (box_new w _ _).1
  have kpz : w.heap.size < w1.heap.size := by simp at hz1; omega
  obtain ⟨x1, x2⟩ := box_third w1 (.cells #[.int .i64 (d' : Int)] 3) (.cells #[.slice none 0 0] 27) .nilFunc 50
  clear hb1 hd' HDG
  obtain ⟨FV, hFV⟩ : ∃ FV, FV = Value.func (.func 26) #[] #[.pointer (some ⟨w1.heap.size, 0, none⟩), .pointer (some ⟨w1.heap.size + 1, 0, none⟩), .pointer (some ⟨w.heap.size, 0, none⟩), .pointer (some ⟨w1.heap.size + 1 + 1, 0, none⟩)] := ⟨_, rfl⟩
  obtain ⟨w5, hw5⟩ : ∃ w5, w5 = (((w1.alloc (.cells #[.int .i64 (d' : Int)] 3)).alloc (.cells #[.slice none 0 0] 27)).alloc (.cells #[FV] 50)) := ⟨_, rfl⟩
  have hz5 : w5.heap.size = w1.heap.size + 3 := by rw [hw5]; simp
  have kd5 : w5.cell? ⟨w1.heap.size, 0, none⟩ = some (.int .i64 (d' : Int)) := by rw [hw5]; exact box_alloc _ (box_alloc _ (box_new w1 _ _).1)
  have ko5 : w5.heap[w1.heap.size + 1]? = some (.cells #[.slice none 0 0] 27 (0, 0)) := by
    rw [hw5]
    have h := World.alloc_heap_new (w1.alloc (.cells #[.int .i64 (d' : Int)] 3)) (.cells #[.slice none 0 0] 27)
    rw [World.size_alloc] at h
    exact (Below.heap_alloc _ _ _ (by simp)).trans h
  have ks5 : w5.cell? ⟨w1.heap.size + 1 + 1, 0, none⟩ = some FV := by rw [hw5]; exact (box_third w1 _ _ _ _).1
  have hb15 : Below w1.heap.size w1 w5 := by rw [hw5]; exact (((Below.refl _ w1).alloc (Nat.le_refl _) _).alloc (by simp) _).alloc (by simp; omega) _
  have kp5 := (hb15.cell (p := ⟨w.heap.size, 0, none⟩) kpz).trans kp1
  have HB15 := Lib.hid hb15
  have HZ5 := Lib.hid hz5
  have HKD := Lib.hid kd5
  have HKO := Lib.hid ko5
  have HKP := Lib.hid kp5
  have HKS := Lib.hid ks5
  rw [hFV] at hw5
  have HW5 := Lib.hid hw5
  have HFV := Lib.hid hFV
  have hne1 : ¬ w5.heap.size = w1.heap.size + 1 + 1 := by omega
  have hne2 : ¬ w1.heap.size + 1 + 1 = w5.heap.size := by omega
  clear hz5 kd5 ko5 ks5 hb15 kp5 hw5 kp1 hFV
  go_wp2_with (at_make; rw [← HW5.out]; refine wpl_make rfl _ _ _ rfl e32f .i64 .i64 _ _ (n + 1) rfl rfl HN1.out HN1.out (by omega) (by unfold maxLen; omega) ?_; intro w4 hr4 hb4 hs4; have q0 := hr4.cell (show 0 < n + 1 by omega); have q1 := hr4.cell (show n < n + 1 by omega); have g0 := hr4.frozen 0; have g1 := hr4.frozen n; have HR4 := Lib.hid hr4; have HB4 := Lib.hid hb4; have ks4 : w4.cell? ⟨w1.heap.size + 1 + 1, 0, none⟩ = some (.func (.func 26) #[] #[.pointer (some ⟨w1.heap.size, 0, none⟩), .pointer (some ⟨w1.heap.size + 1, 0, none⟩), .pointer (some ⟨w.heap.size, 0, none⟩), .pointer (some ⟨w1.heap.size + 1 + 1, 0, none⟩)]) := by { rw [← HFV.out]; exact (hb4.cell (p := ⟨w1.heap.size + 1 + 1, 0, none⟩) (show w1.heap.size + 1 + 1 < w5.heap.size by have := HZ5.out; omega)).trans HKS.out }; clear hr4 hb4)
  obtain ⟨w6, hw6⟩ : ∃ w6, w6 = (w4.setCell ⟨w5.heap.size, 0, none⟩ (.int .u32 1)).setCell ⟨w5.heap.size, n, none⟩ (.int .u32 1) := ⟨_, rfl⟩
  rw [← hw6]
  have hz5 := HZ5.out
  have hb6 : Below w5.heap.size w5 w6 := by rw [hw6]; exact (HB4.out.setCell (p := ⟨w5.heap.size, 0, none⟩) (Nat.le_refl _) _).setCell (p := ⟨w5.heap.size, n, none⟩) (Nat.le_refl _) _
  have hrow6 : w6.rowIs w5.heap.size 22 (n + 1) (ku .u32 (wholeF n)) := by
    rw [hw6]
    exact rowIs_set_ku (rowIs_set_ku HR4.out 0 1) n 1
  have hls6 : LS w6 0 w6.heap.size (some ⟨w5.heap.size, 0, none⟩) (wholeL n) := LS.of (Sq.of_row hrow6 (Nat.le_refl _) (Nat.zero_le _) hrow6.lt (fun j hj => by unfold wholeF; rw [if_neg (by omega), if_neg (by omega)]) fun _ _ => rfl)
  have hlen : (wholeL n).length = n + 1 := toL_len _ _
  have hcap6 : Caps w6 p d' w1.heap.size (w1.heap.size + 1) w.heap.size (w1.heap.size + 1 + 1) w5.heap.size := {
    cd := (hb6.cell (p := ⟨w1.heap.size, 0, none⟩) (show w1.heap.size < w5.heap.size by omega)).trans HKD.out
    cp := (hb6.cell (p := ⟨w.heap.size, 0, none⟩) (show w.heap.size < w5.heap.size by omega)).trans HKP.out
    cs := by rw [← HFV.out]; exact (hb6.cell (p := ⟨w1.heap.size + 1 + 1, 0, none⟩) (show w1.heap.size + 1 + 1 < w5.heap.size by omega)).trans HKS.out
    ld := ⟨by omega, by omega, by omega, by omega⟩
    ne := ⟨by omega, by omega, by omega⟩
    le := hb6.size }
  have hout6 : OutS w6 (w1.heap.size + 1) w5.heap.size [] (.slice none 0 0) (fun _ => none) (fun _ => 0) := {
    box := (hb6.block (w1.heap.size + 1) (by omega)).trans HKO.out
    row := World.ownsRow_nil w6 w5.heap.size 34 1
    el := fun j hj => absurd hj (Nat.not_lt_zero j)
    apart := fun j hj => absurd hj (Nat.not_lt_zero j) }
  have hfree6 : Free w6 (w1.heap.size + 1) (.slice none 0 0) (some ⟨w5.heap.size, 0, none⟩) := fun b off s e => by
    injection e with e
    injection e with e _ _
    subst e
    exact ⟨by omega, (fun e2 => by simp [Value.ownBlock] at e2), hrow6.lt⟩
  have hsp := split_any p d' w1.heap.size (w1.heap.size + 1) w.heap.size (w1.heap.size + 1 + 1) w5.heap.size hp ⟨hp3, hp4⟩ hd5 (wholeL n) L HT.out w6 (some ⟨w5.heap.size, 0, none⟩) (n + 1) [] (.slice none 0 0) (fun _ => none) (fun _ => 0) (by simp; omega) hcap6 hout6 hls6 hfree6
  rw [hlen, List.nil_append] at hsp
  have HB06 : Hid (Below w.heap.size w w6) := Lib.hid ((((Below.refl _ w).alloc (Nat.le_refl _) _).trans (HB1.out.mono (by simp))).trans ((HB15.out.mono (by omega)).trans (hb6.mono (by omega))))
  have HSP := Lib.hid hsp
  clear hw6 hb6 hrow6 hls6 hlen hcap6 hout6 hfree6 hsp
  refine HSP.out.mono ?_
  rintro e w7 ⟨O', G', c', rfl, ho7, hf7⟩
  obtain ⟨Ao, co, rfl⟩ := own_value ho7.row
  have hrow7 := ho7.row
  rcases hrow7.2 with ⟨_, h0⟩ | ⟨g, cap, cur, hv, hgB, hh, _⟩
  · exact absurd h0 (by omega)
  injection hv with hv1 hv2 hv3
  subst hv1 hv3
  have kO : w7.cell? ⟨w1.heap.size + 1, 0, none⟩ = some (.slice (some ⟨g, 0, none⟩) L.length co) := (box_at ho7.box).1
  have hgw := (Array.getElem?_eq_some_iff.1 hh).1
  have HSR := Lib.hid (sortL_any g co L G' c' w7 (fun j hj => ⟨by
    rw [hrow7.cellAt j (by simpa using hj)]
    rw [List.getElem?_map, List.getElem?_range hj]
    rfl, hrow7.frozenAt j⟩) ho7.el (fun j hj b off s e he => by
      have := (ho7.apart j hj b off s e).2.1
      simp only [Value.ownBlock] at this
      exact this (by rw [he])) HL.out hgw (by omega))
  have HO7 := Lib.hid ho7
  have HB7 := Lib.hid (HB06.out.trans (hf7.to_below HB06.out.size (by omega) (fun q e => by simp [Value.ownBlock] at e)))
  clear ho7 hf7 hrow7 hh HSP
  go_wp2_with fail
  refine HSR.out.mono ?_
  rintro e w8 ⟨rfl, s, hperm, hso, hcells, hgr⟩
  have HSO := Lib.hid hso
  clear hso
  have hfr : FrS w7 w8 (w1.heap.size + 1) (.slice (some ⟨g, 0, none⟩) L.length co) (.slice (some ⟨g, 0, none⟩) L.length co) := ⟨hgr.os, hgr.tape, hgr.output, hgr.size, fun k hk h1 h2 => hgr.block k hk (fun e => h2 (by simp only [Value.ownBlock]; exact e.symm)), .inl rfl⟩
  have kO8 : w8.cell? ⟨w1.heap.size + 1, 0, none⟩ = some (.slice (some ⟨g, 0, none⟩) L.length co) := (World.cell?_of_block (a := ⟨w1.heap.size + 1, 0, none⟩) (hgr.block (w1.heap.size + 1) (by have := HO7.out.box; have := (Array.getElem?_eq_some_iff.1 this).1; omega) (fun e => by injection e with e; omega))).trans kO
  have HLS := Lib.hid (fun j (hj : j < L.length) => hfr.ls (HO7.out.el j hj) (HO7.out.apart j hj))
  have HB8 := Lib.hid (HB7.out.trans ((Below.refl w.heap.size w7).grown hgr HB7.out.size (fun q e => by injection e with e; omega)))
  have HCE := Lib.hid hcells
  have HPE := Lib.hid hperm
  have hz8 := hgr.size
  clear hcells hperm hgr hfr HSR kO
  go_wp2_with fail
  go_ret2
  have hsl : s.length = L.length := by rw [HPE.out.length_eq, List.length_range]
  have hlt : ∀ j, j < L.length → s.getD j 0 < L.length := fun j hj => by
    have h1 : s.getD j 0 ∈ s := by
      rw [List.getD_eq_getElem?_getD, List.getElem?_eq_getElem (by omega)]
      exact List.getElem_mem _
    exact List.mem_range.1 (HPE.out.subset h1)
  have hml : (s.map fun i => L.getD i []).length = L.length := by rw [List.length_map, hsl]
  have hmg : ∀ j, j < L.length → (s.map fun i => L.getD i []).getD j [] = L.getD (s.getD j 0) [] := fun j hj => by
    rw [List.getD_eq_getElem?_getD, List.getElem?_map, List.getElem?_eq_getElem (show j < s.length by omega)]
    show L.getD s[j] [] = _
    congr 1
    rw [List.getD_eq_getElem?_getD, List.getElem?_eq_getElem (show j < s.length by omega)]
    rfl
  refine ⟨g, co, s.map (fun i => L.getD i []), fun j => G' (s.getD j 0), fun j => c' (s.getD j 0), by rw [hml]; rfl, by omega, ?_, fun i j hij hj => ?_, fun j hj => ?_, fun j hj => ?_, HB8.out⟩
  · have h1 : ((List.range L.length).map fun i => L.getD i []) = L := by
      refine List.ext_getElem (by simp) fun i h1 h2 => ?_
      rw [List.getElem_map, List.getElem_range, List.getD_eq_getElem?_getD, List.getElem?_eq_getElem h2]
      rfl
    have h2 := HPE.out.map fun i => L.getD i []
    rw [h1] at h2
    exact h2
  · rw [hml] at hj
    rw [hmg j hj, hmg i (by omega)]
    exact Int.not_lt.2 (HSO.out i j hij hj)
  · rw [hml] at hj
    rw [HCE.out j hj]
    unfold encL lnL
    rw [hmg j hj]
  · rw [hml] at hj
    rw [hmg j hj]
    exact HLS.out _ (hlt j hj)
end Go.Proofs.Ytkklacgoeopekaa
