/- The contract of the recursion of factor.Factors. -/
import Derived.Test.YtkklacgoeopekaaSp7
namespace Go.Proofs.Ytkklacgoeopekaa
open Go.RowKit Go.Shelf Go.Sort
set_option linter.unusedVariables false
attribute [local go_sem] Oper.semAt_some

theorem ls_put {W : World} {lo hi : Nat} {A : Option Addr} {l : List Nat} {b : Nat} {o o' : Obj} (h : LS W lo hi A l) (hb : W.heap[b]? = some o) (hc : o.isCells = false) : LS (W.putObj b o') lo hi A l :=
  ⟨h.1, fun hn => by
    obtain ⟨q, off, e, h1, h2, h3⟩ := h.2 hn
    exact ⟨q, off, e, h1, h2, fun j hj => cell_kept (h3 j hj) (grownBy_putObj' W b o') (fun r e => by cases e; exact ⟨o, hb, hc⟩)⟩⟩
theorem CandG.put {p n k : Nat} {v : Value} {W : World} {b : Nat} {o o' : Obj} (h : CandG p n k v W) (hb : W.heap[b]? = some o) (hc : o.isCells = false) : CandG p n k v (W.putObj b o') := by
  obtain ⟨A, m, c, h0, h1, h2, h3, h4⟩ := h
  refine ⟨A, m, c, h0, h1, h2, ⟨h3.1, fun hn => ?_⟩, h4⟩
  obtain ⟨q, off, e, g1, g2, g3⟩ := h3.2 hn
  exact ⟨q, off, e, g1, by simpa using g2, fun j hj => cell_kept (g3 j hj) (grownBy_putObj' W b o') (fun r e => by cases e; exact ⟨o, hb, hc⟩)⟩
theorem ne_cells {W : World} {b k : Nat} {cs : Array Value} {e : TypeId} {z : Nat × Nat} {o : Obj} (h : W.heap[k]? = some (.cells cs e z)) (hb : W.heap[b]? = some o) (hc : o.isCells = false) : k ≠ b := fun e => by
  subst e
  rw [h] at hb
  cases hb
  cases hc
theorem OutS.put {W : World} {ob lo : Nat} {L : List (List Nat)} {O : Value} {G : Nat → Option Addr} {c : Nat → Nat} {b : Nat} {o o' : Obj} (h : OutS W ob lo L O G c) (hb : W.heap[b]? = some o) (hc : o.isCells = false) : OutS (W.putObj b o') ob lo L O G c where
  box := (World.putObj_heap_other (ne_cells h.box hb hc)).trans h.box
  row := by
    have hr := h.row
    refine ⟨hr.1, ?_⟩
    rcases hr.2 with h1 | ⟨g, cap, cur, hv, hB, hh, hr⟩
    · exact .inl h1
    · exact .inr ⟨g, cap, cur, hv, hB, (World.putObj_heap_other (ne_cells hh hb hc)).trans hh, hr⟩
  el := fun j hj => by
    have := ls_put (o' := o') (h.el j hj) hb hc
    rw [World.putObj_size]
    exact this
  apart := fun j hj b' off s e => by
    rw [World.putObj_size]
    exact h.apart j hj b' off s e
theorem FrS.put {w W : World} {ob b : Nat} {O O' : Value} {o' : Obj} (h : FrS w W ob O O') (hb : w.heap.size ≤ b) : FrS w (W.putObj b o') ob O O' where
  os := h.os
  tape := h.tape
  output := h.output
  size := by rw [World.putObj_size]; exact h.size
  block := fun k hk h1 h2 => (World.putObj_heap_other (by omega)).trans (h.block k hk h1 h2)
  row := h.row
/-- what the closure holds -/
structure Caps (w : World) (p d bd bo bp bs lo : Nat) : Prop where
  cd : w.cell? ⟨bd, 0, none⟩ = some (.int .i64 (d : Int))
  cp : w.cell? ⟨bp, 0, none⟩ = some (.int .u32 (p : Int))
  cs : w.cell? ⟨bs, 0, none⟩ = some (.func (.func 26) #[] #[.pointer (some ⟨bd, 0, none⟩), .pointer (some ⟨bo, 0, none⟩), .pointer (some ⟨bp, 0, none⟩), .pointer (some ⟨bs, 0, none⟩)])
  ld : bd < lo ∧ bp < lo ∧ bs < lo ∧ bo < lo
  ne : bd ≠ bo ∧ bp ≠ bo ∧ bs ≠ bo
  le : lo ≤ w.heap.size
theorem Caps.below {w w' : World} {p d bd bo bp bs lo : Nat} (h : Caps w p d bd bo bp bs lo) (hb : Below w.heap.size w w') : Caps w' p d bd bo bp bs lo where
  cd := (hb.cell (p := ⟨bd, 0, none⟩) (Nat.lt_of_lt_of_le h.ld.1 h.le)).trans h.cd
  cp := (hb.cell (p := ⟨bp, 0, none⟩) (Nat.lt_of_lt_of_le h.ld.2.1 h.le)).trans h.cp
  cs := (hb.cell (p := ⟨bs, 0, none⟩) (Nat.lt_of_lt_of_le h.ld.2.2.1 h.le)).trans h.cs
  ld := h.ld
  ne := h.ne
  le := Nat.le_trans h.le hb.size
theorem OutS.rowlo {w : World} {ob lo : Nat} {L : List (List Nat)} {O : Value} {G : Nat → Option Addr} {c : Nat → Nat} (h : OutS w ob lo L O G c) {g : Nat} (e : O.ownBlock = some g) : lo ≤ g ∧ g < w.heap.size := by
  rcases h.row.2 with ⟨e1, _⟩ | ⟨g', cap, cur, e1, hB, hh, _⟩
  · subst e1; simp [Value.ownBlock] at e
  · subst e1
    simp only [Value.ownBlock, Option.some.injEq] at e
    subst e
    exact ⟨hB, (Array.getElem?_eq_some_iff.1 hh).1⟩
theorem Caps.frs {w w' : World} {p d bd bo bp bs lo : Nat} {L : List (List Nat)} {O O' : Value} {G : Nat → Option Addr} {c : Nat → Nat} (h : Caps w p d bd bo bp bs lo) (ho : OutS w bo lo L O G c) (hf : FrS w w' bo O O') : Caps w' p d bd bo bp bs lo := by
  obtain ⟨l1, l2, l3, l4⟩ := h.ld
  obtain ⟨n1, n2, n3⟩ := h.ne
  have hle := h.le
  have key : ∀ b, b < lo → b ≠ bo → w'.heap[b]? = w.heap[b]? := fun b hb hne => hf.block b (by omega) hne (fun e => by have := (ho.rowlo e).1; omega)
  exact ⟨(World.cell?_of_block (a := ⟨bd, 0, none⟩) (key bd l1 n1)).trans h.cd, (World.cell?_of_block (a := ⟨bp, 0, none⟩) (key bp l2 n2)).trans h.cp, (World.cell?_of_block (a := ⟨bs, 0, none⟩) (key bs l3 n3)).trans h.cs, h.ld, h.ne, Nat.le_trans hle hf.size⟩
def RetSp (w : World) (bo lo : Nat) (L : List (List Nat)) (O : Value) (e : Ending) (w' : World) : Prop :=
  ∃ O' G' c', e = .returned (.tuple #[]) ∧ OutS w' bo lo L O' G' c' ∧ FrS w w' bo O O'
theorem LS.free {w w' : World} {lo hi ob : Nat} {A : Option Addr} {l : List Nat} {O : Value} (h : LS w' lo hi A l) (hl : 0 < l.length) (ho : ob < lo) (hO : ∀ g, O.ownBlock = some g → g < lo) (hh : hi ≤ w.heap.size) : Free w ob O A := fun b off s e => by
  obtain ⟨q, o, e2, h1, h2, _⟩ := h.2 hl
  rw [e] at e2
  injection e2 with e2
  injection e2 with e2 _ _
  subst e2
  exact ⟨by omega, fun e3 => by have := hO _ e3; omega, by omega⟩
theorem tl_leN (f : Nat → Nat) (n : Nat) : tl f n ≤ n := tl_le f n

theorem cell_one_at (W : World) (u : Value) (t : TypeId) (k : Nat) (hk : k = W.heap.size) : ∀ (j : Nat) (x : Value), [u][j]? = some x → (W.alloc (.cells #[u] t)).cell? ((⟨k, 0, none⟩ : Addr).add j) = some x := by
  subst hk
  exact cell_one_new W u t
theorem OutS.boxg {w w1 : World} {ob lo : Nat} {L : List (List Nat)} {O : Value} {G : Nat → Option Addr} {c : Nat → Nat} {o : Obj} (h : OutS w ob lo L O G c) (hlo : ob < lo) (hg : (w.alloc o).grownBy w1 O.ownBlock) : w1.cell? ⟨ob, 0, none⟩ = some O ∧ w1.frozen? ⟨ob, 0, none⟩ = false := by
  have hobw : ob < w.heap.size := (Array.getElem?_eq_some_iff.1 h.box).1
  have hwa : (w.alloc o).heap.size = w.heap.size + 1 := World.size_alloc _ _
  exact box_at ((hg.block ob (by omega) (fun e => by have := (h.rowlo e.symm).1; omega)).trans ((Below.heap_alloc w o ob hobw).trans h.box))
theorem append_own (L1 L2 L3 : List (List Nat)) : L1 ++ L2 ++ L3 = L1 ++ (L2 ++ L3) := List.append_assoc _ _ _

set_option maxRecDepth 100000 in
set_option maxHeartbeats 400000000 in
theorem split_any (p d bd bo bp bs lo : Nat) (hp : prB p = true) (hp2 : 2 ≤ p ∧ p ≤ 65535) (hd : d ≤ 500) (f : List Nat) (Lf : List (List Nat)) (ht : SplT p d f Lf) :
    ∀ (w : World) (A : Option Addr) (cA : Nat) (L : List (List Nat)) (O : Value) (G : Nat → Option Addr) (c : Nat → Nat), L.length + Lf.length ≤ 1000 → Caps w p d bd bo bp bs lo → OutS w bo lo L O G c → LS w 0 w.heap.size A f → Free w bo O A →
      Calls Try.prog 26 #[.slice A f.length cA, .pointer (some ⟨bd, 0, none⟩), .pointer (some ⟨bo, 0, none⟩), .pointer (some ⟨bp, 0, none⟩), .pointer (some ⟨bs, 0, none⟩)] w (RetSp w bo lo (L ++ Lf) O) := by
  induction ht with
  | leaf f hfl =>
    intro w A cA L O G c hlen hcap hout hls hfree
    obtain ⟨Ao, co, rfl⟩ := own_value hout.row
    have hle := hcap.le
    have HFL := Lib.hid hfl
    have hf1000 : f.length ≤ 1000 ∧ 1 ≤ f.length := by omega
    simp only [List.length_singleton] at hlen
    obtain ⟨l1, l2, l3, l4⟩ := hcap.ld
    obtain ⟨i0, hi, hz0, hz1, hz2⟩ := info_parts (P := Try.prog) (e := 34) (z := .slice none 0 0) (size := 1) (bytes := 24) (by kernel_rfl)
    obtain ⟨w2, hw2⟩ : ∃ w2, w2 = w.alloc (.cells #[.slice A f.length cA] 34) := ⟨_, rfl⟩
    have hb2 : Below w.heap.size w w2 := by rw [hw2]; exact (Below.refl _ w).alloc (Nat.le_refl _) _
    have hz : w2.heap.size = w.heap.size + 1 := by rw [hw2]; simp
    have hcap2 := hcap.below hb2
    have hout2 := hout.below hb2
    have hls2 := hls.next hb2
    have hfr2 : Free w2 bo (.slice Ao L.length co) A := fun b off s e => by
      obtain ⟨h1, h2, h3⟩ := hfree b off s e
      exact ⟨h1, h2, by omega⟩
    have k1 := hcap2.cd
    have k2 : w2.cell? ⟨bo, 0, none⟩ = some (.slice Ao L.length co) := (box_at hout2.box).1
    have k3 : w2.frozen? ⟨bo, 0, none⟩ = false := (box_at hout2.box).2
    have k4 : w2.cell? ⟨w.heap.size, 0, none⟩ = some (.slice A f.length cA) := by rw [hw2]; exact (box_new w _ _).1
    have HW2 := Lib.hid hw2
    have HB2 := Lib.hid hb2
    have HO2 := Lib.hid hout2
    have HL2 := Lib.hid hls2
    have HFR2 := Lib.hid hfr2
    have e1 : (((f.length : Nat) : Int) - 1 == (d : Int)) = true := by rw [beq_iff_eq]; omega
    clear hcap hout hls hfree hcap2 hout2 hls2 hfr2 hb2 hfl
    refine calls_of_marks Try.func26 rfl ?_
    simp only [Try.ntmps26, List.size_toArray, List.length_cons, List.length_nil, Nat.reduceAdd, Nat.reduceSub, Array.replicate_succ, Array.replicate_zero, List.push_toArray, List.append_toArray, List.nil_append, List.cons_append]
    rw [hw2] at k1 k2 k3 k4
    clear hw2
    go_wp2_with (at_builtin; go_loud (rw [← HW2.out]; refine wpList_append_own_at _ rfl _ _ 27 rfl lo 34 i0 (.slice none 0 0) 1 24 Try.underlying27 hi hz0 hz1 hz2 rfl (by decide) (.slice Ao L.length co) _ _ rfl (HO2.out.row.alloc _) ⟨w.heap.size + 1, 0, none⟩ 1 1 [.slice A f.length cA] rfl rfl (cell_one_at _ _ _ _ hz.symm) (by simp [Value.oneCell']) (by unfold maxLen; omega) (by omega) (by simp; omega) ?_); intro v' w3 hown' hgrow _ hat; obtain ⟨An, cn, rfl⟩ := own_value hown'; obtain ⟨k5, k6⟩ := HO2.out.boxg l4 hgrow)
    obtain ⟨r1, r2⟩ := HO2.out.push l4 (by omega) HL2.out HFR2.out hown' hgrow hat
    refine marks_end rfl (.tuple #[]) (by simp [results, Try.f26, go_sem]) ?_
    exact ⟨_, _, _, rfl, r1, (FrS.of_below bo _ HB2.out).trans r2⟩
  | node f k L1 L2 h1 h2 hk hb hno hyes t1 t2 ih1 ih2 =>
    intro w A cA L O G c hlen hcap hout hls hfree
    obtain ⟨Ao, co, rfl⟩ := own_value hout.row
    have hle := hcap.le
    obtain ⟨l1, l2, l3, l4⟩ := hcap.ld
    rw [List.length_append] at hlen
    obtain ⟨w2, hw2⟩ : ∃ w2, w2 = w.alloc (.cells #[.slice A f.length cA] 34) := ⟨_, rfl⟩
    have hb2 : Below w.heap.size w w2 := by rw [hw2]; exact (Below.refl _ w).alloc (Nat.le_refl _) _
    have hz2 : w2.heap.size = w.heap.size + 1 := by rw [hw2]; simp
    obtain ⟨w6, hw6⟩ : ∃ w6, w6 = (w2.alloc (.cells #[.int .u32 (p : Int)] 22)).alloc (.cells #[.int .i64 ((f.length - 1 : Nat) : Int)] 3) := ⟨_, rfl⟩
    have hb26 : Below w2.heap.size w2 w6 := by rw [hw6]; exact ((Below.refl _ w2).alloc (Nat.le_refl _) _).alloc (by simp) _
    have hz6 : w6.heap.size = w2.heap.size + 2 := by rw [hw6]; simp
    have c1 : w6.cell? ⟨w2.heap.size, 0, none⟩ = some (.int .u32 (p : Int)) := by rw [hw6]; exact box_alloc _ (box_new w2 _ _).1
    have c2 : w6.cell? ⟨w2.heap.size + 1, 0, none⟩ = some (.int .i64 ((f.length - 1 : Nat) : Int)) := by
      rw [hw6]
      have := (box_new (w2.alloc (.cells #[.int .u32 (p : Int)] 22)) (.int .i64 ((f.length - 1 : Nat) : Int)) 3).1
      rw [World.size_alloc] at this
      exact this
    have kf2 : w2.cell? ⟨w.heap.size, 0, none⟩ = some (.slice A f.length cA) := by rw [hw2]; exact (box_new w _ _).1
    have kf6 := (hb26.cell (p := ⟨w.heap.size, 0, none⟩) (show w.heap.size < w2.heap.size by omega)).trans kf2
    have hcap2 := hcap.below hb2
    have HK6 := Lib.hid (hcap2.below hb26)
    have HO6 := Lib.hid ((hout.below hb2).below hb26)
    have HL6 := Lib.hid ((hls.next hb2).next hb26)
    have HBW := Lib.hid (hb2.trans (hb26.mono (by omega)))
    have HRO : Hid (∀ g, (Value.slice Ao L.length co).ownBlock = some g → g < w.heap.size) := Lib.hid fun g e => (hout.rowlo e).2
    have k1 := hcap2.cd
    have k2 := hcap2.cp
    have e1 : (((f.length : Nat) : Int) - 1 == (d : Int)) = false := by rw [beq_eq_false_iff_ne]; omega
    have hn1 : ((f.length : Nat) : Int) - 1 = ((f.length - 1 : Nat) : Int) := by omega
    have HCA : Hid (Calls Try.prog 27 #[.int .u32 p, .int .i64 (((f.length : Nat) : Int) - 1)] w2 (fun e w' => e = .returned (.func (.func 49) #[] #[.pointer (some ⟨w2.heap.size, 0, none⟩), .pointer (some ⟨w2.heap.size + 1, 0, none⟩)]) ∧ w' = w6)) := Lib.hid (by
      rw [hn1, hw6]
      exact cand_any p _ w2)
    have HW2 := Lib.hid hw2
    have HB := Lib.hid hb
    have HNO := Lib.hid hno
    have HYES := Lib.hid hyes
    have HI1 := Lib.hid ih1
    have HI2 := Lib.hid ih2
    have HT2 : Hid (0 < (dmQ p f (gL p d f k)).length) := Lib.hid (by cases t2 with
      | leaf _ h => omega
      | node _ _ _ _ _ h => omega)
    have HN1 := Lib.hid h1
    obtain ⟨h2a, h2b⟩ := h2
    obtain ⟨hk1, hk2⟩ := hk
    rw [hw2] at k1 k2 kf2
    clear hcap hout hls hfree hcap2 hb2 hb26 hw6 hb hno hyes ih1 ih2 t1 t2 hw2 h1 hn1
    refine calls_of_marks Try.func26 rfl ?_
    simp only [Try.ntmps26, List.size_toArray, List.length_cons, List.length_nil, Nat.reduceAdd, Nat.reduceSub, Array.replicate_succ, Array.replicate_zero, List.push_toArray, List.append_toArray, List.nil_append, List.cons_append]
    go_wp2_with fail
    rw [← HW2.out]
    refine HCA.out.mono ?_
    rintro e w' ⟨rfl, hw'⟩
    subst hw'
    clear k1 k2 kf2 HCA
    rw [hz2] at c1 c2
    go_wp2_with fail
    refine wp_rangeFunc_it (gf := 49) (lb := #[.pointer (some ⟨w.heap.size + 1, 0, none⟩), .pointer (some ⟨w.heap.size + 1 + 1, 0, none⟩)]) rfl (enters_of Try.func49 (by kernel_rfl) rfl) (cand_iter p (f.length - 1) (w.heap.size + 1) (w.heap.size + 1 + 1) k hp2.1 hp2.2 (by omega) hk1 hk2)
      (fun j W => Below w'.heap.size w' W ∧ p ≤ j) (fun W => ∃ O' G' c', OutS W bo lo (L ++ (L1 ++ L2)) O' G' c' ∧ FrS w' W bo (.slice Ao L.length co) O')
      (fun j X Y h hb => ⟨h.1.trans hb, h.2⟩) (fun j X h => ⟨(h.1.cell (p := ⟨w.heap.size + 1, 0, none⟩) (show w.heap.size + 1 < _ by omega)).trans c1, (h.1.cell (p := ⟨w.heap.size + 1 + 1, 0, none⟩) (show w.heap.size + 1 + 1 < _ by omega)).trans c2⟩)
      (fun j v X Y hg he => by
        obtain ⟨r, o, hr, e⟩ := he
        subst e
        exact hg.put hr rfl)
      (fun X r o h hr => by
        obtain ⟨O', G', c', g1, g2⟩ := h
        exact ⟨O', G', c', g1.put hr rfl, g2.put (by omega)⟩) ⟨Below.refl _ _, Nat.le_refl _⟩ ?ab ?stop
    case ab =>
      apply Exists.intro
      refine ⟨?_, ?_⟩
      · intro l v W K hK
        gi_wp2
        exact hK
      · rintro lr j v W ⟨hbw, hpj⟩ _ hjk hg hzW
        obtain ⟨A2, cc2, rfl, hcl, hcs⟩ := hg.list
        obtain ⟨b1, b2⟩ := HB.out j hpj hjk
        have hcapW := HK6.out.below hbw
        have q1 := hcapW.cd
        have q2 := hcapW.cp
        have qf := (hbw.cell (p := ⟨w.heap.size, 0, none⟩) (show w.heap.size < _ by omega)).trans kf6
        have HLW := Lib.hid (HL6.out.next hbw)
        have HCH := Lib.hid (character_any p d cc2 cA A2 A (candL p (f.length - 1) j) f W hcs HLW.out (by omega) (by omega) (by omega) b1)
        have HBw := Lib.hid hbw
        have HKW := Lib.hid hcapW
        have HGL : Hid (gL p d f j = gcL p f (sbL p (chrL p d (candL p (f.length - 1) j) f) [1])) := Lib.hid rfl
        generalize chrL p d (candL p (f.length - 1) j) f = CL at b2 HCH HGL
        generalize candL p (f.length - 1) j = CD at hcl hcs HCH b1
        clear b1 hg hcs hcapW hbw
        gi_wp2_with fail
        refine ⟨trivial, (CallsIn.inRound lr (callsIn_wide.2 HCH.out)).mono ?_⟩
        rintro e w7 ⟨A3, cc3, rfl, hc3, hb7⟩
        have hkc7 := HKW.out.below hb7
        have q3 := hkc7.cp
        have hz7 := hb7.size
        have hba : Below w7.heap.size w7 (w7.alloc (.cells #[.int .u32 1] 22)) := (Below.refl _ w7).alloc (Nat.le_refl _) _
        have HL1 : LS (w7.alloc (.cells #[.int .u32 1] 22)) 0 (w7.alloc (.cells #[.int .u32 1] 22)).heap.size (some ⟨w7.heap.size, 0, none⟩) [1] := sq_list .u32 w7 22 0 _ [1] (Nat.zero_le _) (by simp)
        have HSB := Lib.hid (sb_call p cc3 1 A3 (some ⟨w7.heap.size, 0, none⟩) CL [1] (w7.alloc (.cells #[.int .u32 1] 22)) (hc3.fresh.next hba) HL1 (by omega) (by decide))
        have HBA := Lib.hid (hb7.trans (hba.mono hz7))
        have hsl : (sbL p CL [1]).length ≤ 1001 := by
          unfold sbL
          rw [toL_len]
          refine Nat.le_trans (tl_leN _ _) ?_
          simp only [List.length_singleton]
          omega
        generalize sbL p CL [1] = SL at HSB HGL hsl
        clear q1 q2 qf hc3 hb7 hba HL1 HCH hkc7
        gi_wp2_with fail
        refine ⟨trivial, (CallsIn.inRound lr (callsIn_wide.2 HSB.out)).mono ?_⟩
        rintro e w9 ⟨A4, cc4, E4, rfl, _, hc4, hb9⟩
        have hb9' := HBA.out.trans (hb9.mono HBA.out.size)
        have hkc9 := HKW.out.below hb9'
        have q1 := hkc9.cp
        have qf := ((HBw.out.trans (hb9'.mono HBw.out.size)).cell (p := ⟨w.heap.size, 0, none⟩) (show w.heap.size < _ by omega)).trans kf6
        have HL9 := Lib.hid (HLW.out.next hb9')
        have HGC := Lib.hid (gc_call p cA cc4 A A4 f SL w9 HL9.out hc4.fresh hp (by omega) (by omega) (by omega))
        have HB9 := Lib.hid hb9'
        have hz9 := hb9'.size
        rw [← HGL.out] at HGC
        obtain ⟨GL, hGL⟩ : ∃ x, gL p d f j = x := ⟨_, rfl⟩
        rw [hGL] at HGC
        have HGG := Lib.hid hGL
        clear q3 hc4 hb9 hb9' hkc9 HSB HBA hGL
        gi_wp2_with fail
        refine ⟨trivial, (CallsIn.inRound lr (callsIn_wide.2 HGC.out)).mono ?_⟩
        rintro e w10 ⟨A5, cc5, E5, rfl, _, hc5, hb10⟩
        have HB10 := Lib.hid (HB9.out.trans (hb10.mono hz9))
        have HC5 := Lib.hid hc5
        have hz10 := hb10.size
        have hkc10 := HKW.out.below HB10.out
        have q3 := hkc10.cp
        have qf2 := ((HBw.out.trans (HB10.out.mono HBw.out.size)).cell (p := ⟨w.heap.size, 0, none⟩) (show w.heap.size < _ by omega)).trans kf6
        have HKC := Lib.hid hkc10
        have HNO2 : Hid (j < k → ¬ (1 < GL.length ∧ GL.length < f.length)) := Lib.hid fun h => by rw [← HGG.out]; exact HNO.out j hpj h
        have HYES2 : Hid (j = k → 1 < GL.length ∧ GL.length < f.length) := Lib.hid fun h => by rw [← HGG.out, h]; exact HYES.out
        clear q1 qf hc5 hb10 HGC hkc10
        have go_on : ¬ (1 < GL.length ∧ GL.length < f.length) → Kept2 w'.heap.size W w10 ∧ j < k ∧ Below w'.heap.size w' w10 ∧ p ≤ j + 1 := fun hng => by
          have hlt : j < k := by
            rcases Nat.lt_or_eq_of_le hjk with h | h
            · exact h
            · exact absurd (HYES2.out h) hng
          exact ⟨⟨HB10.out.block _ hzW, HB10.out.block _ (by omega)⟩, hlt, HBw.out.trans (HB10.out.mono HBw.out.size), by omega⟩
        have HGO := Lib.hid go_on
        clear go_on
        by_cases hg1 : 1 < GL.length
        rotate_left
        · have e2 : decide (((GL.length : Nat) : Int) > 1) = false := decide_eq_false (by omega)
          have e3 : decide (1 < GL.length) = false := decide_eq_false (by omega)
          gi_wp2
          exact HGO.out (fun h => hg1 h.1)
        have e2 : decide (((GL.length : Nat) : Int) > 1) = true := decide_eq_true (by omega)
        have e3 : decide (1 < GL.length) = true := decide_eq_true (by omega)
        by_cases hg2 : GL.length < f.length
        rotate_left
        · have e4 : decide (((GL.length : Nat) : Int) < ((f.length : Nat) : Int)) = false := decide_eq_false (by omega)
          gi_wp2
          exact HGO.out (fun h => hg2 h.2)
        have e4 : decide (((GL.length : Nat) : Int) < ((f.length : Nat) : Int)) = true := decide_eq_true (by omega)
        obtain rfl : j = k := by
          rcases Nat.lt_or_eq_of_le hjk with h | h
          · exact absurd ⟨hg1, hg2⟩ (HNO2.out h)
          · exact h
        have HL10 := Lib.hid (HLW.out.next HB10.out)
        have HDM := Lib.hid (dm_call p cA cc5 A A5 f GL w10 HL10.out HC5.out.fresh (by omega) (by omega))
        clear HGO HNO2 HYES2
        gi_wp2_with fail
        refine ⟨trivial, (CallsIn.inRound lr (callsIn_wide.2 HDM.out)).mono ?_⟩
        rintro e w11 ⟨A6, cc6, A7, cc7, E7, rfl, hq6, _, hb11⟩
        have HB11 := Lib.hid (HB10.out.trans (hb11.mono HB10.out.size))
        have hkc11 := HKC.out.below hb11
        have q4 := hkc11.cs
        have HO11 := Lib.hid (HO6.out.below (HBw.out.trans (HB11.out.mono HBw.out.size)))
        have hz11 := hb11.size
        have hzw := HBw.out.size
        have HG11 := Lib.hid (HC5.out.fresh.next hb11)
        have HRO2 : Hid (∀ g, (Value.slice Ao L.length co).ownBlock = some g → g < W.heap.size) := Lib.hid fun g e => by have := HRO.out g e; omega
        have HFG : Hid (Free w11 bo (.slice Ao L.length co) A5) := Lib.hid (HC5.out.free (by omega) (by omega) (fun g e => by have := HRO2.out g e; omega) hz11)
        have HFQ : Hid (Free w11 bo (.slice Ao L.length co) A6) := Lib.hid (hq6.free (by rw [← HGG.out]; exact HT2.out) (by omega) (fun g e => by have := HRO2.out g e; omega) (Nat.le_refl _))
        have HQ6 := Lib.hid hq6.fresh
        have HIH1 := Lib.hid (HI1.out w11 A5 cc5 L (.slice Ao L.length co) G c (by omega) hkc11 HO11.out (by rw [HGG.out]; exact HG11.out) HFG.out)
        rw [HGG.out] at HIH1
        have HK11 := Lib.hid hkc11
        clear q3 qf2 hq6 hb11 hkc11 HDM
        gi_wp2_with fail
        refine ⟨trivial, (CallsIn.inRound lr (callsIn_wide.2 HIH1.out)).mono ?_⟩
        rintro e w12 ⟨O1, G1, cc1, rfl, ho12, hf12⟩
        have hkc12 := HK11.out.frs HO11.out hf12
        have q5 := hkc12.cs
        have HQ12 := Lib.hid (hf12.ls HQ6.out HFQ.out)
        have HFQ12 := Lib.hid (hf12.free HFQ.out)
        have HIH2 := Lib.hid (HI2.out w12 A6 cc6 (L ++ L1) O1 G1 cc1 (by rw [List.length_append]; omega) hkc12 ho12 (by rw [HGG.out]; exact HQ12.out) HFQ12.out)
        rw [HGG.out] at HIH2
        have HF12 := Lib.hid hf12
        clear q4 hkc12 ho12 hf12 HIH1
        gi_wp2_with fail
        refine ⟨trivial, (CallsIn.inRound lr (callsIn_wide.2 HIH2.out)).mono ?_⟩
        rintro e w13 ⟨O2, G2, cc2', rfl, ho13, hf13⟩
        have HF13 := Lib.hid (HF12.out.trans hf13)
        have HO13 := Lib.hid ho13
        clear q5 ho13 hf13 HIH2
        gi_wp2
        have hz12 := HB11.out.size
        have hkeep : ∀ q, q = w'.heap.size ∨ q = w'.heap.size + 1 → w13.heap[q]? = W.heap[q]? := fun q hq => by
          refine (HF13.out.block q (by omega) (by omega) (fun e => ?_)).trans (HB11.out.block q (by omega))
          have := HRO.out q e
          omega
        exact ⟨⟨hkeep _ (.inr rfl), hkeep _ (.inl rfl)⟩, O2, G2, cc2', by rw [← List.append_assoc]; exact HO13.out, (FrS.of_below bo _ (HBw.out.trans (HB11.out.mono HBw.out.size))).trans HF13.out⟩
    case stop =>
      rintro W ⟨O', G', c', ho, hf⟩ hK
      have HOW := Lib.hid (ho.put (o' := .deferred none) hK rfl)
      have HFW := Lib.hid (((FrS.of_below bo _ HBW.out).trans hf).put (o' := .deferred none) (show w.heap.size ≤ w'.heap.size by omega))
      clear ho hf
      go_wp2
      refine marks_end1 rfl hK (.tuple #[]) (by simp [results, Try.f26, go_sem]) ?_
      exact ⟨O', G', c', rfl, HOW.out, HFW.out⟩
end Go.Proofs.Ytkklacgoeopekaa
