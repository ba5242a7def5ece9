/- The law PolysRuns of layer 25: copies of the steps, and the walk. -/
import Derived.Test.YtmidpholmgmdpaaRRn25
import Derived.Test.YtmidpholmgmdpaaRD25
import Derived.Test.YtmidpholmgmdpaaAw25
import Derived.Test.YtmidpholmgmdpaaSame25
namespace Go.Proofs.Ytmidpholmgmdpaa
open Go.RowKit
set_option linter.unusedVariables false

def upR {α : Type} (f : Nat → α) (k : Nat) (x : α) : Nat → α := fun j => if j = k then x else f j
theorem alloc_atR (w : World) (o : Obj) : (w.alloc o).heap[w.heap.size]? = some o := Array.getElem?_push_size
theorem zown_emptyR {k : IntKind} {w : World} {base e : Nat} (h : base ≤ w.heap.size) : Z.Own k (w.alloc (.cells #[] e)) base e (some ⟨w.heap.size, 0, none⟩) 0 0 (fun _ => 0) :=
  Z.Own.of_row (f := fun _ => 0) (World.rowIs_alloc w #[] e _ fun i hi => absurd hi (Nat.not_lt_zero i)) h (Nat.le_refl _) (Nat.zero_le _) (fun _ _ => rfl) fun j hj => absurd hj (Nat.not_lt_zero j)
theorem Pln.nextR {w w' : World} {n : Nat} {A : Option Addr} {s : Nat → PS} (h : Pln w w.heap.size A n s) (hb : Below w.heap.size w w') : Pln w' w'.heap.size A n s := (h.below hb).wide hb.size
theorem plnL_congrR {s : Nat → PS} {C C' : Nat → Option Addr} {cc cc' : Nat → Nat} (n : Nat) (h : ∀ j, j < n → C j = C' j ∧ cc j = cc' j) : plnL s C cc n = plnL s C' cc' n := by
  induction n with
  | zero => rfl
  | succ n ih =>
    unfold plnL
    rw [ih fun j hj => h j (by omega), (h n (by omega)).1, (h n (by omega)).2]
structure OwP (w : World) (B i : Nat) (s : Nat → PS) (O : Value) (C : Nat → Option Addr) (cc : Nat → Nat) : Prop where
  row : w.ownsRow B 37 5 O i (plnL s C cc i)
  own : ∀ j, j < i → Z.Own .i64 w B 2 (C j) (s j).n (cc j) (s j).cs
  le : ∀ j, j < i → (s j).n ≤ 2000
theorem OwP.start (w : World) (B : Nat) (s : Nat → PS) : OwP w B 0 s (.slice none 0 0) (fun _ => none) (fun _ => 0) :=
  ⟨World.ownsRow_nil w B 37 5, fun j hj => absurd hj (Nat.not_lt_zero j), fun j hj => absurd hj (Nat.not_lt_zero j)⟩
theorem OwP.below {w w' : World} {B i : Nat} {s : Nat → PS} {O : Value} {C : Nat → Option Addr} {cc : Nat → Nat} (h : OwP w B i s O C cc) (hb : Below w.heap.size w w') : OwP w' B i s O C cc where
  row := by
    have hr := h.row
    refine ⟨hr.1, ?_⟩
    rcases hr.2 with h1 | ⟨g, cap, cur, hv, hB, hh, hr⟩
    · exact .inl h1
    · exact .inr ⟨g, cap, cur, hv, hB, (hb.block g (Array.getElem?_eq_some_iff.1 hh).1).trans hh, hr⟩
  own := fun j hj => (h.own j hj).below hb (Nat.le_refl _)
  le := h.le
theorem OwP.push {w w' : World} {B i : Nat} {s : Nat → PS} {O O' : Value} {C : Nat → Option Addr} {cc : Nat → Nat} {A : Option Addr} {cA : Nat} (h : OwP w B i s O C cc) (ho : Z.Own .i64 w B 2 A (s i).n cA (s i).cs)
    (hl : (s i).n ≤ 2000) (hr : w'.ownsRow B 37 5 O' (i + 1) (plnL s C cc i ++ stpL (s i) A cA)) (hg : w.grownBy w' O.ownBlock) : OwP w' B (i + 1) s O' (upR C i A) (upR cc i cA) := by
  have keep : ∀ {A m cA f}, Z.Own .i64 w B 2 A m cA f → Z.Own .i64 w' B 2 A m cA f := fun {A m cA f} hk => by
    refine hk.grown hg fun q hA e => ?_
    rcases h.row.2 with ⟨hO, _⟩ | ⟨g, cap, cur, hO, _, hh, _⟩
    · subst hO; simp [Value.ownBlock] at e
    · subst hO
      simp only [Value.ownBlock, Option.some.injEq] at e
      subst e
      rcases hk.2.2 with ⟨hv, _⟩ | ⟨q', cap2, cur2, hv, _, hh2, _⟩
      · rw [hA] at hv; cases hv
      · rw [hA] at hv
        injection hv with hv
        injection hv with hv
        injection hv with hv
        subst hv
        rw [hh] at hh2
        injection hh2 with hh2
        injection hh2 with _ hh2
        exact absurd hh2 (by decide)
  have e1 : ∀ {α : Type} (f : Nat → α) (x : α) (j : Nat), j < i → upR f i x j = f j := fun f x j hj => if_neg (by omega)
  have e2 : ∀ {α : Type} (f : Nat → α) (x : α), upR f i x i = x := fun f x => if_pos rfl
  constructor
  · show w'.ownsRow B 37 5 O' (i + 1) (plnL s (upR C i A) (upR cc i cA) i ++ stpL (s i) (upR C i A i) (upR cc i cA i))
    rw [e2, e2, plnL_congrR (C := upR C i A) (C' := C) (cc := upR cc i cA) (cc' := cc) i fun j hj => ⟨e1 _ _ _ hj, e1 _ _ _ hj⟩]
    exact hr
  · intro j hj
    rcases Nat.lt_or_eq_of_le (Nat.le_of_lt_succ hj) with h1 | rfl
    · rw [e1 _ _ _ h1, e1 _ _ _ h1]
      exact keep (h.own j h1)
    · rw [e2, e2]
      exact keep ho
  · intro j hj
    rcases Nat.lt_or_eq_of_le (Nat.le_of_lt_succ hj) with h1 | rfl
    · exact h.le j h1
    · exact hl
theorem OwP.pln {w : World} {B i : Nat} {s : Nat → PS} {O : Value} {C : Nat → Option Addr} {cc : Nat → Nat} (h : OwP w B i s O C cc) : ∃ A c, O = .slice A i c ∧ Pln w w.heap.size A i s := by
  have h2' := h.row
  rcases h2'.2 with ⟨h1, h0⟩ | ⟨g, cap, cur, hv, hg, hh, _⟩
  · subst h0
    exact ⟨none, 0, h1, fun hn => absurd hn (Nat.not_lt_zero _)⟩
  · subst hv
    refine ⟨_, _, rfl, fun hn => ⟨g, 0, rfl, (Array.getElem?_eq_some_iff.1 hh).1, fun j hj => ?_⟩⟩
    have hc : ∀ q, q < 5 → w.cell? ⟨g, 0 + j * 5 + q, none⟩ = (stpL (s j) (C j) (cc j))[q]? := fun q hq => by
      rw [Nat.zero_add, h2'.cellAt _ (by omega)]
      exact plnL_get _ _ _ _ j hj q hq
    exact ⟨hc 0 (by omega), hc 1 (by omega), hc 2 (by omega), hc 3 (by omega), C j, cc j, hc 4 (by omega), (h.own j hj).sq (Nat.zero_le _), by have := h.le j hj; omega⟩
theorem lit_cells (W : World) (k e : Nat) (hk : k = W.heap.size) (u : List Value) : ∀ j y, u[j]? = some y → (W.alloc (.cells u.toArray e)).cell? ⟨k, j, none⟩ = some y := fun j y hy => by
  subst hk
  rw [World.cell?_alloc_new, List.getElem?_toArray]
  exact hy
theorem own_set_other {k : IntKind} {w : World} {base e n c g j : Nat} {A : Option Addr} {f : Nat → Int} {v : Value} (h : Z.Own k w base e A n c f) (hg : g < base) : Z.Own k (w.setCell ⟨g, j, none⟩ v) base e A n c f :=
  h.of_block fun q hq hlt _ => (grown_set w ⟨g, j, none⟩ v).block q hlt (fun e => by injection e with e; have e2 : q = g := e; omega)
section laws
variable {P : Program} {w : World} {ops : Array Oper} {rest : List Oper} {o : Oper} {a : Act} {Q : Exit → Act → World → Prop}
theorem wpl_append5 (hgd : o.guard = none) (s x : Operand) (t : TypeId) (ho : o.op = .call { callee := .builtin .append, args := #[s, x], argTypes := #[t, t] })
    {e : TypeId} (ht : P.underlying t = some (.slice e)) {z : Value} {bytes : Nat} (hi : (P.info? e).map (fun i => (i.zero, i.size, i.bytes)) = some (some z, 5, bytes)) (hzc : z.cells.size = 5)
    {base n : Nat} {v : Value} {xs : List Value} (hs : a.eval s = v) (hown : w.ownsRow base e 5 v n xs) {g c2 : Nat} {u : List Value} (hx : a.eval x = .slice (some ⟨g, 0, none⟩) 1 c2) (hul : u.length = 5) (hu : ∀ j y, u[j]? = some y → w.cell? ⟨g, j, none⟩ = some y) (h1 : ∀ y ∈ u, y.oneCell' = true)
    (hn : n + 1 ≤ maxLen) (hbytes : (n + 1) * bytes ≤ 140737488355328) (hbase : base ≤ w.heap.size)
    (h : ∀ v' w', w'.ownsRow base e 5 v' (n + 1) (xs ++ u) → w.grownBy w' v.ownBlock → wpList P ops Q rest (a.put o.dst v') w') :
    wpList P ops Q (o :: rest) a w := by
  obtain ⟨i, hi, hz⟩ := Option.map_eq_some_iff.1 hi
  simp only [Prod.mk.injEq] at hz
  obtain ⟨hz1, hz2, hz3⟩ := hz
  exact wpList_append_own w hgd s x t ho base e i z 5 bytes ht hi hz1 hz2 hz3 hzc (by decide) v n xs hs hown ⟨g, 0, none⟩ 1 c2 u hx (by rw [hul]) (fun j y hy => by
    have e1 : (⟨g, 0, none⟩ : Addr).add j = ⟨g, j, none⟩ := by
      unfold Addr.add
      split
      · simp
      · simp
    rw [e1]
    exact hu j y hy) h1 hn hbytes hbase fun v' w' r1 r2 _ => h v' w' r1 r2
end laws

set_option maxRecDepth 100000 in
set_option maxHeartbeats 40000000 in
theorem polysRuns_any (t n c : Nat) (A : Option Addr) (s : Nat → PS) (x : Int) (w : World) (ht : t ≤ 4294967295) (hs : Pln w w.heap.size A n s) (hn9 : n ≤ 9223372036854775807) :
    Calls Try.prog 6 #[.int .u32 t, .slice A n c, .int .i64 x] w (RetV w (.bool true)) := by
  have HS := Lib.hid hs
  clear hs
  by_cases hbig : 1000 < n
  · have d2 : decide ((n : Int) > 1000) = true := decide_eq_true (by omega)
    have HW := Lib.hid (awake25_any w)
    go_enter Try.func6, Try.ntmps6
    go_wp2_with fail
    refine HW.out.mono ?_
    rintro e w1 ⟨rfl, hb1⟩
    go_wp2_with fail
    go_ret
    exact ⟨rfl, hb1⟩
  have d2 : decide ((n : Int) > 1000) = false := decide_eq_false (by omega)
  have d2' : decide (1000 < n) = false := decide_eq_false (by omega)
  go_enter Try.func6, Try.ntmps6
  go_wp2_with fail
  go_loopw [7, 8, 9] (fun N O I w' => ∃ (i S : Nat) (C : Nat → Option Addr) (cc : Nat → Nat), I = .int .i64 (i : Int) ∧ i ≤ n ∧ N = .int .i64 (S : Int) ∧ S ≤ 2000 * i ∧ OwP w' w.heap.size i s O C cc ∧ Below w.heap.size w w') (fun _ _ I _ => n - (intOf I).toNat)
  case atStart => exact ⟨0, 0, _, _, rfl, Nat.zero_le _, rfl, Nat.zero_le _, OwP.start w _ s, Below.refl _ _⟩
  case round =>
    obtain ⟨i, S, C, cc, rfl, hin, rfl, hS, how, hbl⟩ := hrel
    obtain ⟨Ao, co, rfl, hpo⟩ := how.pln
    have HOW := Lib.hid how
    have HPO := Lib.hid hpo
    have HBL := Lib.hid hbl
    have hzr := hbl.size
    clear how hbl hpo
    by_cases hi : i < n
    · have e3 : decide ((i : Int) < (n : Int)) = true := decide_eq_true (by omega)
      obtain ⟨g, off, hAe, hg, hst⟩ := HS.out.below HBL.out (by omega)
      obtain ⟨k0, k1, k2, k3, Ci, cC, k4, hsq, hsn⟩ := hst i hi
      rw [hAe]
      have i0 : 0 ≤ (i : Int) := by omega
      have i1 : (i : Int) < (n : Int) := by omega
      obtain ⟨T, hT⟩ : ∃ x, s i = x := ⟨_, rfl⟩
      have HSI := Lib.hid hT
      rw [hT] at k0 k1 k2 k3 k4 hsq hsn
      obtain ⟨sm, sa, sb, sf, sn, cs⟩ := T
      simp only at k0 k1 k2 k3 k4 hsq hsn
      have HSQ := Lib.hid hsq
      clear hst hsq hT hAe
      by_cases hs2 : 2000 < sn
      · have e4 : decide ((sn : Int) > 2000) = true := decide_eq_true (by omega)
        have e5 : decide (2000 < sn) = true := decide_eq_true (by omega)
        have HW := Lib.hid (awake25_any wr)
        go_wp2_with fail
        refine HW.out.mono ?_
        rintro e w1 ⟨rfl, hb1⟩
        go_wp2_with fail
        go_ret
        exact ⟨rfl, HBL.out.trans (hb1.mono hzr)⟩
      have e4 : decide ((sn : Int) > 2000) = false := decide_eq_false (by omega)
      have e5 : decide (2000 < sn) = false := decide_eq_false (by omega)
      obtain ⟨w9, hw9⟩ : ∃ w9, w9 = wr.alloc (.cells #[.bool sm, .int .i64 sa, .int .i64 sb, .int .i64 sf, .slice Ci sn cC] 37) := ⟨_, rfl⟩
      have hb9 : Below wr.heap.size wr w9 := by rw [hw9]; exact (Below.refl _ wr).alloc (Nat.le_refl _) _
      have HZ9 : Hid (w9.heap.size = wr.heap.size + 1) := Lib.hid (by rw [hw9]; simp)
      have hz9 : wr.heap.size < w9.heap.size := by rw [HZ9.out]; omega
      have HOE : Hid (Z.Own .i64 (w9.alloc (.cells #[] 2)) w9.heap.size 2 (some ⟨wr.heap.size + 1, 0, none⟩) 0 0 (fun _ => 0)) := Lib.hid (by rw [← HZ9.out]; exact zown_emptyR (Nat.le_refl _))
      have hba : Below w9.heap.size w9 (w9.alloc (.cells #[] 2)) := (Below.refl _ w9).alloc (Nat.le_refl _) _
      have HSA := Lib.hid ((HSQ.out.below (hb9.mono hzr) (Nat.le_refl _)).below (hba.mono (show w.heap.size ≤ w9.heap.size by omega)) (Nat.le_refl _))
      have q0 : w9.cell? ⟨wr.heap.size, 0, none⟩ = some (.bool sm) := by rw [hw9, World.cell?_alloc_new]; rfl
      have q1 : w9.cell? ⟨wr.heap.size, 1, none⟩ = some (.int .i64 sa) := by rw [hw9, World.cell?_alloc_new]; rfl
      have q2 : w9.cell? ⟨wr.heap.size, 2, none⟩ = some (.int .i64 sb) := by rw [hw9, World.cell?_alloc_new]; rfl
      have q3 : w9.cell? ⟨wr.heap.size, 3, none⟩ = some (.int .i64 sf) := by rw [hw9, World.cell?_alloc_new]; rfl
      have q4 : w9.cell? ⟨wr.heap.size, 4, none⟩ = some (.slice Ci sn cC) := by rw [hw9, World.cell?_alloc_new]; rfl
      have qf : w9.frozen? ⟨wr.heap.size, 4, none⟩ = false := by rw [World.frozen?, hw9, alloc_atR]; rfl
      have HQW : Hid (∀ w' : World, Below w9.heap.size w9 w' → w'.cell? ⟨wr.heap.size, 0, none⟩ = some (.bool sm) ∧ w'.cell? ⟨wr.heap.size, 1, none⟩ = some (.int .i64 sa) ∧ w'.cell? ⟨wr.heap.size, 2, none⟩ = some (.int .i64 sb) ∧ w'.cell? ⟨wr.heap.size, 3, none⟩ = some (.int .i64 sf) ∧ w'.cell? ⟨wr.heap.size, 4, none⟩ = some (.slice Ci sn cC) ∧ w'.frozen? ⟨wr.heap.size, 4, none⟩ = false) := Lib.hid fun w' h =>
        ⟨(h.cell (p := ⟨wr.heap.size, 0, none⟩) hz9).trans q0, (h.cell (p := ⟨wr.heap.size, 1, none⟩) hz9).trans q1, (h.cell (p := ⟨wr.heap.size, 2, none⟩) hz9).trans q2, (h.cell (p := ⟨wr.heap.size, 3, none⟩) hz9).trans q3, (h.cell (p := ⟨wr.heap.size, 4, none⟩) hz9).trans q4, (h.frozen (p := ⟨wr.heap.size, 4, none⟩) hz9).trans qf⟩
      have HW9 := Lib.hid hw9
      have HB9 := Lib.hid hb9
      have HBA := Lib.hid hba
      clear hw9 hb9 hba q0 q1 q2 q3 q4 qf
      go_wp2_with (first
        | (at_builtin; rw [← HW9.out]; refine Z.wpl_append (n := 0) rfl _ _ _ rfl e64s' rfl HOE.out rfl HSA.out cs (fun j hj => absurd hj (Nat.not_lt_zero j)) (fun j => by rw [Nat.zero_add]) (by unfold maxLen; omega) (by omega) (by simp) ?_; intro A5 c5 w10 hown10 hg10 hb10 hat10; have hb910 := HBA.out.trans hb10; obtain ⟨q0, q1, q2, q3, q4, qf⟩ := HQW.out w10 hb910; have hbx : Below wr.heap.size wr ((w10.setCell ⟨wr.heap.size, 4, none⟩ (.slice A5 sn c5)).alloc (.cells #[.bool sm, .int .i64 sa, .int .i64 sb, .int .i64 sf, .slice A5 sn c5] 37)) := (HB9.out.trans (((hb910.mono (Nat.le_of_lt hz9)).setCell (p := ⟨wr.heap.size, 4, none⟩) (Nat.le_refl _) _).alloc (by have := hb910.size; simp; omega) _)); have HBX := Lib.hid hbx; have HOX := Lib.hid (HOW.out.below hbx); rw [Nat.zero_add] at hown10; have HNX := Lib.hid (((own_set_other (j := 4) (v := .slice A5 sn c5) hown10 hz9).alloc (.cells #[.bool sm, .int .i64 sa, .int .i64 sb, .int .i64 sf, .slice A5 sn c5] 37)).base (show w.heap.size ≤ w9.heap.size by omega)); clear hown10 hg10 hb10 hat10 hb910 hbx)
        | (at_builtin; refine wpl_append5 (v := .slice Ao i co) (z := .agg #[.bool false, .int .i64 0, .int .i64 0, .int .i64 0, .slice none 0 0]) (bytes := 56) (u := [.bool sm, .int .i64 sa, .int .i64 sb, .int .i64 sf, .slice A5 sn c5]) rfl _ _ _ rfl Try.underlying32 (by kernel_rfl) (by kernel_rfl) rfl HOX.out.row rfl rfl (lit_cells _ _ _ (by simp) _) (fun y hy => by simp at hy; rcases hy with rfl | rfl | rfl | rfl | rfl <;> rfl) (by unfold maxLen; omega) (by omega) (by have := HBX.out.size; omega) ?_; intro O' w' hr' hg'))
      have how' := HOX.out.push (A := A5) (cA := c5) (by rw [HSI.out]; exact HNX.out) (by rw [HSI.out]; show sn ≤ 2000; omega) (by rw [HSI.out]; exact hr') hg'
      have hbl' := (HBL.out.trans (HBX.out.mono hzr)).trans ((Below.refl w.heap.size _).grown hg' (by have := HBX.out.size; omega) (fun q hq => by
        rcases HOX.out.row.2 with ⟨h1, _⟩ | ⟨g', _, _, h1, hB', _⟩
        · rw [h1] at hq; simp [Value.ownBlock] at hq
        · rw [h1] at hq
          simp only [Value.ownBlock, Option.some.injEq] at hq
          omega))
      go_roundw
      case rel => exact ⟨i + 1, S + sn, _, _, by go_num, hi, by go_num, by omega, how', hbl'⟩
      case measure => simp only [intOf]; omega
    · obtain rfl : n = i := by omega
      have e3 : decide ((n : Int) < (n : Int)) = false := decide_eq_false (by omega)
      by_cases hS2 : 20000 < S
      · have e4 : decide ((S : Int) > 20000) = true := decide_eq_true (by omega)
        have e5 : decide (20000 < S) = true := decide_eq_true (by omega)
        have HW := Lib.hid (awake25_any wr)
        go_wp2_with fail
        refine HW.out.mono ?_
        rintro e w1 ⟨rfl, hb1⟩
        go_wp2_with fail
        go_ret
        exact ⟨rfl, HBL.out.trans (hb1.mono hzr)⟩
      have e4 : decide ((S : Int) > 20000) = false := decide_eq_false (by omega)
      have e5 : decide (20000 < S) = false := decide_eq_false (by omega)
      have HLE := Lib.hid HOW.out.le
      have HPL := Lib.hid ((HS.out.below HBL.out).wide hzr)
      have HC1 := Lib.hid (check25_any t n co Ao s wr ht HPO.out (by omega))
      clear HOW
      obtain ⟨E, hE⟩ : ∃ E, chkE t n s = E := ⟨_, rfl⟩
      have HE := Lib.hid hE
      rw [hE] at HC1
      clear hE
      go_wp2_with fail
      refine HC1.out.mono ?_
      rintro e w1 ⟨rfl, hb1⟩
      have HPO1 := Lib.hid (HPO.out.nextR hb1)
      have HPL1 := Lib.hid (HPL.out.nextR hb1)
      have HB1 := Lib.hid (HBL.out.trans (hb1.mono hzr))
      have HC2 := Lib.hid (depth25_any t n co Ao s w1 ht HPO1.out (by omega))
      clear hb1 HC1 HPO HPL HBL
      obtain ⟨D, hD⟩ : ∃ D, depV t n s = D := ⟨_, rfl⟩
      have HD := Lib.hid hD
      rw [hD, HE.out] at HC2
      clear hD
      go_wp2_with fail
      refine HC2.out.mono ?_
      rintro e w2 ⟨rfl, hb2⟩
      have HPO2 := Lib.hid (HPO1.out.nextR hb2)
      have HPL2 := Lib.hid (HPL1.out.nextR hb2)
      have HB2 := Lib.hid (HB1.out.trans (hb2.mono HB1.out.size))
      have HC3 := Lib.hid (run25_any t n co Ao s x w2 ht HPO2.out (by omega))
      clear hb2 HC2 HPO1 HPL1 HB1
      obtain ⟨V, hV⟩ : ∃ V, runV t n s x = V := ⟨_, rfl⟩
      obtain ⟨G, hG⟩ : ∃ G, runE t n s x = G := ⟨_, rfl⟩
      have HVG := Lib.hid (And.intro hV hG)
      rw [hV, hG] at HC3
      clear hV hG
      go_wp2_with fail
      refine HC3.out.mono ?_
      rintro e w3 ⟨rfl, hb3⟩
      have HPO3 := Lib.hid (HPO2.out.nextR hb3)
      have HPL3 := Lib.hid (HPL2.out.nextR hb3)
      have HB3 := Lib.hid (HB2.out.trans (hb3.mono HB2.out.size))
      clear hb3 HC3 HPO2 HPL2 HB2
      go_wp2_with fail
      go_loopw [16] (fun I w' => ∃ i : Nat, I = .int .i64 (i : Int) ∧ i ≤ n ∧ Below w3.heap.size w3 w') (fun I _ => n - (intOf I).toNat)
      case atStart => exact ⟨0, rfl, Nat.zero_le _, Below.refl _ _⟩
      case round =>
        obtain ⟨i, rfl, hi, hbl⟩ := hrel
        have HBW := Lib.hid hbl
        have HPOW := Lib.hid (HPO3.out.nextR hbl)
        have HPLW := Lib.hid (HPL3.out.nextR hbl)
        have hz3 := hbl.size
        clear hbl
        by_cases hin : i < n
        · have e3 : decide ((i : Int) < (n : Int)) = true := decide_eq_true (by omega)
          obtain ⟨g, off, hAe, hg, hst⟩ := HPLW.out (by omega)
          obtain ⟨k0, k1, k2, k3, C1, cC1, k4, hsq, hsn⟩ := hst i hin
          obtain ⟨g2, off2, hAe2, hg2, hst2⟩ := HPOW.out (by omega)
          obtain ⟨l0, l1, l2, l3, C2, cC2, l4, hsq2, _⟩ := hst2 i hin
          have hle := HLE.out i hin
          rw [hAe, hAe2]
          have i0 : 0 ≤ (i : Int) := by omega
          have i1 : (i : Int) < (n : Int) := by omega
          obtain ⟨T, hT⟩ : ∃ x, s i = x := ⟨_, rfl⟩
          rw [hT] at k0 k1 k2 k3 k4 hsq l0 l1 l2 l3 l4 hsq2 hle
          obtain ⟨sm, sa, sb, sf, sn, cs⟩ := T
          simp only at k0 k1 k2 k3 k4 hsq l0 l1 l2 l3 l4 hsq2 hle
          have HSM := Lib.hid (fun d : Nat => same25_any sn sn cC2 cC1 C2 C1 cs cs (wr.drewN d) _ _ _ _ hsq2 hsq (by omega) (by omega) (Nat.le_refl _) (Nat.le_refl _))
          have f0 : (sm != sm) = false := by simp
          have f1 : (sa != sa) = false := by simp
          have f2 : (sb != sb) = false := by simp
          have f3 : (sf != sf) = false := by simp
          clear hst hst2 hsq hsq2 hT hAe hAe2
          go_wp2
          refine wp_region_quiet_tail 61 (by kernel_rfl) (by kernel_rfl) ?_
          simp only [List.take_succ_cons, List.take_zero, List.drop_succ_cons, List.drop_zero]
          repeat (go_big_quiet_step (fail))
          refine wpQuiet_nil ?_
          rintro _ ⟨d2, rfl⟩
          go_wp2_with fail
          refine (HSM.out d2).mono ?_
          rintro e w5 hh5
          obtain ⟨rfl, hb5⟩ := hh5.yes ⟨rfl, fun j _ => rfl⟩
          have hb5' : Below wr.heap.size wr w5 := (below_drewN (Below.refl _ wr) d2).trans hb5
          clear hh5 hb5
          go_wp2
          go_roundw
          case rel => exact ⟨i + 1, by go_num, hin, HBW.out.trans (hb5'.mono hz3)⟩
          case measure => simp only [intOf]; omega
        · obtain rfl : n = i := by omega
          have e3 : decide ((n : Int) < (n : Int)) = false := decide_eq_false (by omega)
          have HBw := Lib.hid (HB3.out.trans (HBW.out.mono HB3.out.size))
          have HC4 := Lib.hid (rdepth25_any t n c A s wr ht HPLW.out (by omega))
          rw [HD.out, HE.out] at HC4
          clear HPOW HPO3 HPL3 HB3
          go_wp2_with fail
          refine HC4.out.mono ?_
          rintro e w4 ⟨rfl, hb4⟩
          have HPL4 := Lib.hid (HPLW.out.nextR hb4)
          have HB4 := Lib.hid (HBw.out.trans (hb4.mono HBw.out.size))
          have HC5 := Lib.hid (rrun25_any t n c A s x w4 ht HPL4.out (by omega))
          rw [HVG.out.1, HVG.out.2] at HC5
          clear hb4 HC4 HPLW
          go_wp2_with fail
          refine HC5.out.mono ?_
          rintro e w5 ⟨rfl, hb5⟩
          have HPL5 := Lib.hid (HPL4.out.nextR hb5)
          have HB5 := Lib.hid (HB4.out.trans (hb5.mono HB4.out.size))
          have HC6 := Lib.hid (rcheck25_any t n c A s w5 ht HPL5.out (by omega))
          rw [HE.out] at HC6
          have f1 : (E == E) = true := by simp
          have f2 : (D == D) = true := by simp
          have f3 : (V == V) = true := by simp
          have f4 : (G == G) = true := by simp
          clear hb5 HC5 HPL4
          go_wp2_with fail
          refine HC6.out.mono ?_
          rintro e w6 ⟨rfl, hb6⟩
          have HB6 := Lib.hid (HB5.out.trans (hb6.mono HB5.out.size))
          clear hb6 HC6
          go_wp2_with fail
          refine (awake25_any w6).mono ?_
          rintro e w7 ⟨rfl, hb7⟩
          go_wp2_with fail
          go_ret
          exact ⟨rfl, HB6.out.trans (hb7.mono HB6.out.size)⟩
end Go.Proofs.Ytmidpholmgmdpaa
