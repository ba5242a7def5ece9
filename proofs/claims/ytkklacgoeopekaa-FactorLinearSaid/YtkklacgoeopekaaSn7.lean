/- slices.SortFunc(out, slices.Compare) at whatever length, by the library's contract: the row holds a permutation of what it held. -/
import Derived.Shelf.SlSortCmp.Whole1
import Derived.Test.YtkklacgoeopekaaLx7
import Derived.Test.YtkklacgoeopekaaSp7
namespace Go.Proofs.Ytkklacgoeopekaa
open Go.RowKit Go.Shelf Go.Sort
set_option linter.unusedVariables false

def sortLays_ren : Go.Shelf.Ren := ⟨fun | 6 => 32 | 15 => 58 | 14 => 57 | 28 => 77 | 29 => 78 | 20 => 69 | 21 => 70 | 22 => 71 | 23 => 72 | 24 => 73 | 25 => 74 | 26 => 75 | 27 => 76 | 46 => 82 | 47 => 83 | 48 => 84 | 49 => 85 | 50 => 86 | 57 => 89 | n => n, fun | 22 => 27 | 24 => 34 | 25 => 58 | 3 => 3 | 39 => 86 | 0 => 0 | 53 => 22 | 55 => 32 | 4 => 4 | 46 => 99 | 45 => 98 | 50 => 103 | 5 => 5 | 9 => 9 | 66 => 107 | 70 => 111 | 76 => 114 | 77 => 115 | n => n, fun | n => n⟩
theorem sortLays : Go.Proofs.SlLaysF.n6 Try.prog sortLays_ren := {
  mixed := by kernel_rfl
  f6 := ⟨Try.f32.name, by decide, Try.func32.trans (congrArg some (by kernel_rfl))⟩
  f14 := ⟨Try.f57.name, by decide, Try.func57.trans (congrArg some (by kernel_rfl))⟩
  f15 := Try.func58.trans (congrArg some (by kernel_rfl))
  f20 := ⟨Try.f69.name, by decide, Try.func69.trans (congrArg some (by kernel_rfl))⟩
  f21 := ⟨Try.f70.name, by decide, Try.func70.trans (congrArg some (by kernel_rfl))⟩
  f22 := ⟨Try.f71.name, by decide, Try.func71.trans (congrArg some (by kernel_rfl))⟩
  f23 := ⟨Try.f72.name, by decide, Try.func72.trans (congrArg some (by kernel_rfl))⟩
  f24 := ⟨Try.f73.name, by decide, Try.func73.trans (congrArg some (by kernel_rfl))⟩
  f25 := ⟨Try.f74.name, by decide, Try.func74.trans (congrArg some (by kernel_rfl))⟩
  f26 := ⟨Try.f75.name, by decide, Try.func75.trans (congrArg some (by kernel_rfl))⟩
  f27 := ⟨Try.f76.name, by decide, Try.func76.trans (congrArg some (by kernel_rfl))⟩
  f28 := Try.func77.trans (congrArg some (by kernel_rfl))
  f29 := Try.func78.trans (congrArg some (by kernel_rfl))
  f46 := ⟨Try.f82.name, by decide, Try.func82.trans (congrArg some (by kernel_rfl))⟩
  f47 := Try.func83.trans (congrArg some (by kernel_rfl))
  f48 := Try.func84.trans (congrArg some (by kernel_rfl))
  f49 := ⟨Try.f85.name, by decide, Try.func85.trans (congrArg some (by kernel_rfl))⟩
  f50 := ⟨Try.f86.name, by decide, Try.func86.trans (congrArg some (by kernel_rfl))⟩
  f57 := ⟨Try.f89.name, by decide, Try.func89.trans (congrArg some (by kernel_rfl))⟩
  t0 := Try.underlying0
  a0 := Try.isAgg0
  z0 := Try.sizeOf0
  v0 := Try.zeroValue0
  t3 := Try.underlying3
  a3 := Try.isAgg3
  z3 := Try.sizeOf3
  v3 := Try.zeroValue3
  t4 := Try.underlying4
  a4 := Try.isAgg4
  z4 := Try.sizeOf4
  v4 := Try.zeroValue4
  t5 := Try.underlying5
  a5 := Try.isAgg5
  z5 := Try.sizeOf5
  v5 := Try.zeroValue5
  t9 := Try.underlying9
  a9 := Try.isAgg9
  z9 := Try.sizeOf9
  v9 := Try.zeroValue9
  t22 := Try.underlying27
  a22 := Try.isAgg27
  z22 := Try.sizeOf27
  v22 := Try.zeroValue27
  a24 := Try.isAgg34
  z24 := Try.sizeOf34
  t25 := Try.underlying58
  a25 := Try.isAgg58
  z25 := Try.sizeOf58
  v25 := Try.zeroValue58
  t39 := Try.underlying86
  a39 := Try.isAgg86
  z39 := Try.sizeOf86
  v39 := Try.zeroValue86
  t45 := Try.underlying98
  a45 := Try.isAgg98
  z45 := Try.sizeOf98
  v45 := Try.zeroValue98
  t46 := Try.underlying99
  a46 := Try.isAgg99
  z46 := Try.sizeOf99
  v46 := Try.zeroValue99
  t50 := Try.underlying103
  a50 := Try.isAgg103
  z50 := Try.sizeOf103
  v50 := Try.zeroValue103
  t53 := Try.underlying22
  a53 := Try.isAgg22
  z53 := Try.sizeOf22
  v53 := Try.zeroValue22
  t55 := Try.underlying32
  a55 := Try.isAgg32
  z55 := Try.sizeOf32
  v55 := Try.zeroValue32
  t66 := Try.underlying107
  a66 := Try.isAgg107
  z66 := Try.sizeOf107
  v66 := Try.zeroValue107
  t70 := Try.underlying111
  a70 := Try.isAgg111
  z70 := Try.sizeOf111
  v70 := Try.zeroValue111
  t76 := Try.underlying114
  a76 := Try.isAgg114
  z76 := Try.sizeOf114
  v76 := Try.zeroValue114
  t77 := Try.underlying115
  a77 := Try.isAgg115
  z77 := Try.sizeOf115
  v77 := Try.zeroValue115 }

theorem grownBy_row {α : Type} [Inhabited α] {enc : α → Value} {w : World} {g n : Nat} {os : Array Obj} (d : Array α) : w.grownBy (sortWorld enc w g 0 n d os) (some g) := by
  unfold sortWorld
  refine ⟨rfl, rfl, rfl, by simp, fun k hk hne => ?_⟩
  rw [heap_grow_old _ _ (by simpa using hk)]
  have : g ≠ k := fun e => hne (by rw [e])
  simp [putRow, mapBlock, Sort.ahead, Array.getElem?_modify, this]
theorem LS.grown {w w' : World} {g : Nat} {A : Option Addr} {l : List Nat} (h : LS w 0 w.heap.size A l) (hg : w.grownBy w' (some g)) (hA : 0 < l.length → ∀ b off s, A = some ⟨b, off, s⟩ → b ≠ g) : LS w' 0 w'.heap.size A l :=
  ⟨h.1, fun hn => by
    obtain ⟨b, off, rfl, h1, h2, h3⟩ := h.2 hn
    have f1 := hA hn b off none rfl
    have hz := hg.size
    exact ⟨b, off, rfl, h1, by omega, fun j hj => (World.cell?_of_block (a := ⟨b, off + j, none⟩) (hg.block b h2 (fun e => by injection e with e; exact f1 e))).trans (h3 j hj)⟩⟩
/-- an element of the row -/
def encL (L : List (List Nat)) (G : Nat → Option Addr) (c : Nat → Nat) (j : Nat) : Value := .slice (G j) (lnL L j) (c j)
theorem lnL_out {L : List (List Nat)} {j : Nat} (h : L.length ≤ j) : L.getD j [] = [] := by
  rw [List.getD_eq_getElem?_getD, List.getElem?_eq_none h]; rfl
theorem LS.nil (w : World) (lo hi : Nat) (A : Option Addr) : LS w lo hi A [] := ⟨fun j _ => rfl, fun h => absurd h (Nat.not_lt_zero _)⟩
theorem swo_cmpL (L : List (List Nat)) : SWO (ltOf fun i j : Nat => cmpL (L.getD i []) (L.getD j [])) where
  irrefl x := decide_eq_false (cmpL_irr _)
  trans x y z h1 h2 := decide_eq_true (cmpL_trans _ _ _ (of_decide_eq_true h1) (of_decide_eq_true h2))
  ntrans x y z h1 h2 := decide_eq_false (cmpL_ntrans _ _ _ (of_decide_eq_false h1) (of_decide_eq_false h2))
theorem range_get {n j : Nat} (h : j < n) : (Array.range n)[j]! = j := by
  rw [getElem!_pos _ j (by simpa using h)]
  simp
theorem sortL_any (g cO : Nat) (L : List (List Nat)) (G : Nat → Option Addr) (c : Nat → Nat) (w : World) (hrow : ∀ j, j < L.length → w.cell? ⟨g, j, none⟩ = some (encL L G c j) ∧ w.frozen? ⟨g, j, none⟩ = false)
    (hls : ∀ j, j < L.length → LS w 0 w.heap.size (G j) (L.getD j [])) (hap : ∀ j, j < L.length → ∀ b off s, G j = some ⟨b, off, s⟩ → b ≠ g) (hlen : ∀ j, lnL L j ≤ 1000) (hg : g < w.heap.size) (hn : L.length ≤ 100000) :
    Calls Try.prog 32 #[.slice (some ⟨g, 0, none⟩) L.length cO, .func (.func 33) #[] #[]] w (fun e w' => e = .returned (.tuple #[]) ∧ ∃ s : List Nat, s.Perm (List.range L.length) ∧ (∀ i j, i < j → j < L.length → ¬ cmpL (L.getD (s.getD j 0) []) (L.getD (s.getD i 0) []) < 0) ∧
      (∀ j, j < L.length → w'.cell? ⟨g, j, none⟩ = some (encL L G c (s.getD j 0))) ∧ w.grownBy w' (some g)) := by
  have hd : (Array.range L.length).size = L.length := Array.size_range
  have eg : ∀ args w, (callFunc 33 args).run Try.prog w = .ok (.enter 33 args) w := enters_of Try.func33 (by kernel_rfl) rfl
  have hH : Holds (encL L G c) w g 0 (Array.range L.length) := fun j hj => by
    rw [hd] at hj
    rw [Nat.zero_add, range_get hj]
    exact hrow j hj
  have hall : ∀ (m : Nat) (os : Array Obj) (dk : Array Nat) (x : Nat), LS (sortWorld (encL L G c) w g 0 m dk os) 0 (sortWorld (encL L G c) w g 0 m dk os).heap.size (G x) (L.getD x []) := fun m os dk x => by
    rcases Nat.lt_or_ge x L.length with h | h
    · exact (hls x h).grown (grownBy_row dk) (fun _ => hap x h)
    · rw [lnL_out h]; exact LS.nil _ _ _ _
  have hcmp : CmpLays1 Try.prog 33 #[] (encL L G c) (fun i j : Nat => cmpL (L.getD i []) (L.getD j [])) g 0 (Array.range L.length).size w := fun m os dk hs x y =>
    (comp_any (G x) (G y) (c x) (c y) (L.getD x []) (L.getD y []) _ (hall m os dk x) (hall m os dk y) (hlen x) (hlen y)).mono fun e w' h => ⟨h.1, 0, #[], by rw [grow_empty]; exact h.2.symm⟩
  have hcon := Any.slices_SortFunc sortLays (encL L G c) (fun _ => rfl) (fun i j : Nat => cmpL (L.getD i []) (L.getD j [])) (swo_cmpL L) 33 #[] g 0 cO (Array.range L.length) w eg hcmp hH hg (by omega)
  rw [hd] at hcon
  change Calls Try.prog 32 _ _ _ at hcon
  refine hcon.mono ?_
  rintro e w' ⟨rfl, d', n, os, ⟨p1, p2, p3⟩, hso, rfl⟩
  have hz : d'.size = L.length := by rw [p1, hd]
  have hh := holds_sortWorld (encL L G c) w g 0 n (Array.range L.length) d' os hg hH p1
  have hel : ∀ j, j < L.length → d'[j]! = d'.toList.getD j 0 := fun j hj => by
    rw [getElem!_pos d' j (by omega), List.getD_eq_getElem?_getD, List.getElem?_eq_getElem (by simpa using (show j < d'.size by omega))]
    simp
  refine ⟨rfl, d'.toList, ?_, fun i j hij hj => ?_, fun j hj => ?_, grownBy_row d'⟩
  · have e1 : (d'.extract 0 L.length).toList = d'.toList := by rw [← hz]; simp
    have e2 : ((Array.range L.length).extract 0 L.length).toList = List.range L.length := by
      have : (Array.range L.length).extract 0 L.length = Array.range L.length := by
        conv => lhs; rw [← hd]
        simp
      rw [this]; simp
    rw [e1, e2] at p3
    exact p3
  · have h1 := hso i j (Nat.zero_le _) hij hj
    rw [hel i (by omega), hel j hj] at h1
    exact of_decide_eq_false h1
  · have h1 := (hh j (by omega)).1
    rw [Nat.zero_add] at h1
    rw [h1]
    congr 2
    rw [getElem!_pos d' j (by omega), List.getD_eq_getElem?_getD, List.getElem?_eq_getElem (by simpa using (show j < d'.size by omega))]
    simp
end Go.Proofs.Ytkklacgoeopekaa
