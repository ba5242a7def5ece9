/- The laws of make, append and copy over the words of Base: lists of numbers of one kind, told by a function. -/
import Derived.Test.YtmidpholmgmdpaaAlg
import Derived.Maps.AppendAt
import Derived.Laws.CopyOwn
import Derived.Laws.AppendOwnNone
namespace Go.Proofs.Ytmidpholmgmdpaa
open Go.RowKit

/-- t is the type of slices of e, numbers of kind k of so many bytes -/
structure ElemOf (P : Program) (t e : TypeId) (k : IntKind) (bytes : Nat) : Prop where
  ht : P.underlying t = some (.slice e)
  hi : (P.info? e).map (fun i => (i.zero, i.size, i.bytes)) = some (some (.int k 0), 1, bytes)

theorem ElemOf.size {P : Program} {t e : TypeId} {k : IntKind} {bytes : Nat} (h : ElemOf P t e k bytes) : (P.info? e).map (·.size) = some 1 := by
  obtain ⟨i, hi, hz⟩ := Option.map_eq_some_iff.1 h.hi
  simp only [Prod.mk.injEq] at hz
  rw [hi]
  simp [hz.2.1]

theorem ku_oneCell (k : IntKind) (f : Nat → Nat) (n : Nat) : ∀ u ∈ (List.range n).map (ku k f), u.oneCell' = true := by
  intro u hu
  obtain ⟨j, _, rfl⟩ := List.mem_map.1 hu
  rfl

/-- the slice (A, n, c) is the call's own (its block lies from base on) and reads as f -/
def Own (k : IntKind) (w : World) (base e : Nat) (A : Option Addr) (n c : Nat) (f : Nat → Nat) : Prop :=
  (∀ j, n ≤ j → f j = 0) ∧ w.ownsRow base e 1 (.slice A n c) n ((List.range n).map (ku k f))

theorem Own.nil (k : IntKind) (w : World) (base e : Nat) : Own k w base e none 0 0 (fun _ => 0) := ⟨fun _ _ => rfl, World.ownsRow_nil w base e 1⟩

theorem Own.cases {k : IntKind} {w : World} {base e n c : Nat} {A : Option Addr} {f : Nat → Nat} (h : Own k w base e A n c f) :
    (A = none ∧ n = 0 ∧ c = 0) ∨ ∃ g, A = some ⟨g, 0, none⟩ ∧ base ≤ g ∧ g < w.heap.size ∧ n ≤ c ∧ c ≤ maxLen ∧ (∀ j, j < n → w.cell? ⟨g, j, none⟩ = some (ku k f j)) ∧ (∀ j, w.frozen? ⟨g, j, none⟩ = false) := by
  rcases h.2.2 with ⟨hv, hn⟩ | ⟨g, cap, cur, hv, hb, hh, hnc, hm, hs, ht⟩
  · injection hv with h1 h2 h3
    exact .inl ⟨h1, h2, h3⟩
  · injection hv with h1 h2 h3
    subst h1 h3
    refine .inr ⟨g, rfl, hb, ?_, hnc, hm, fun j hj => ?_, fun j => ?_⟩
    · exact (Array.getElem?_eq_some_iff.1 hh).1
    · rw [h.2.cellAt j (by omega)]
      simp [hj]
    · exact h.2.frozenAt j

theorem Own.le {k : IntKind} {w : World} {base e n c : Nat} {A : Option Addr} {f : Nat → Nat} (h : Own k w base e A n c f) : n ≤ c := by
  rcases h.cases with ⟨_, h1, h2⟩ | ⟨g, _, _, _, h3, _⟩ <;> omega

theorem Own.sq {k : IntKind} {w : World} {base e n c lo : Nat} {A : Option Addr} {f : Nat → Nat} (h : Own k w base e A n c f) (hl : lo ≤ base) : Sq k w lo w.heap.size A n f :=
  ⟨h.1, fun hn => by
    rcases h.cases with ⟨_, h1, _⟩ | ⟨g, rfl, hb, hg, _, _, hc, _⟩
    · omega
    · exact ⟨g, 0, rfl, by omega, hg, fun j hj => by rw [Nat.zero_add, hc j hj]; rfl⟩⟩

theorem Own.of_block {k : IntKind} {w w' : World} {base e n c : Nat} {A : Option Addr} {f : Nat → Nat} (h : Own k w base e A n c f)
    (hk : ∀ g, base ≤ g → g < w.heap.size → A = some ⟨g, 0, none⟩ → w'.heap[g]? = w.heap[g]?) : Own k w' base e A n c f := by
  refine ⟨h.1, h.2.1, ?_⟩
  rcases h.2.2 with h1 | ⟨g, cap, cur, hv, hb, hh, hr⟩
  · exact .inl h1
  · injection hv with h1 h2 h3
    exact .inr ⟨g, cap, cur, by rw [h1, h3], hb, (hk g hb (Array.getElem?_eq_some_iff.1 hh).1 h1).trans hh, hr⟩

theorem Own.below {k : IntKind} {w w' : World} {base e n c B : Nat} {A : Option Addr} {f : Nat → Nat} (h : Own k w base e A n c f) (hb : Below B w w') (hB : w.heap.size ≤ B) : Own k w' base e A n c f :=
  h.of_block fun g _ hg _ => hb.block g (by omega)

theorem Own.alloc {k : IntKind} {w : World} {base e n c : Nat} {A : Option Addr} {f : Nat → Nat} (h : Own k w base e A n c f) (o : Obj) : Own k (w.alloc o) base e A n c f :=
  h.of_block fun g _ hg _ => Below.heap_alloc w o g hg

theorem Own.grown {k : IntKind} {w w' : World} {base e n c : Nat} {A : Option Addr} {f : Nat → Nat} {row : Option Nat} (h : Own k w base e A n c f) (hg : w.grownBy w' row) (hne : ∀ g, A = some ⟨g, 0, none⟩ → row ≠ some g) : Own k w' base e A n c f :=
  h.of_block fun g _ hlt hA => hg.block g hlt fun e => hne g hA e.symm

theorem Own.base {k : IntKind} {w : World} {base base' e n c : Nat} {A : Option Addr} {f : Nat → Nat} (h : Own k w base e A n c f) (hb : base' ≤ base) : Own k w base' e A n c f := by
  refine ⟨h.1, h.2.1, ?_⟩
  rcases h.2.2 with h1 | ⟨g, cap, cur, hv, hg, hr⟩
  · exact .inl h1
  · exact .inr ⟨g, cap, cur, hv, by omega, hr⟩

theorem Own.congr {k : IntKind} {w : World} {base e n c : Nat} {A : Option Addr} {f g : Nat → Nat} (h : Own k w base e A n c f) (hg : ∀ j, f j = g j) : Own k w base e A n c g := by
  have : f = g := funext hg
  subst this
  exact h

/-- a row of the call's own, whole -/
theorem Own.of_row {k : IntKind} {w : World} {base e b c n : Nat} {f g : Nat → Nat} (h : w.rowIs b e c (ku k f)) (hb : base ≤ b) (hn : n ≤ c) (hc : c ≤ maxLen) (hg : ∀ j, n ≤ j → g j = 0) (he : ∀ j, j < n → f j = g j) :
    Own k w base e (some ⟨b, 0, none⟩) n c g := by
  obtain ⟨cs, hh, hs, hcs⟩ := h
  refine ⟨hg, by simp, .inr ⟨b, c, cs, rfl, hb, hh, hn, hc, by omega, ?_⟩⟩
  apply List.ext_getElem?
  intro j
  by_cases hj : j < n
  · rw [List.getElem?_take_of_lt (by omega), Array.getElem?_toList, hcs j (by omega), List.getElem?_map, List.getElem?_range hj]
    simp [ku, he j hj]
  · rw [List.getElem?_eq_none (by simp; omega), List.getElem?_eq_none (by simp; omega)]

theorem mul_lt_of {x c m : Nat} (h1 : x < m) (h2 : c < m) (hm : m ≤ 2147483647) : x * c ≤ 4611686009837453316 := by
  have := Nat.mul_le_mul (show x ≤ 2147483646 by omega) (show c ≤ 2147483646 by omega)
  omega

theorem mul_lt_int {x c m : Nat} (h1 : x < m) (h2 : c < m) (hm : m ≤ 2147483647) : (x : Int) * (c : Int) ≤ 4611686009837453316 := by
  have := mul_lt_of h1 h2 hm
  omega
theorem ret_slice {A : Option Addr} {n n' c : Nat} (h : n = n') : Ending.returned (.slice A n c) = .returned (.slice A n' c) := by rw [h]
theorem sq_n {k : IntKind} {w : World} {lo hi n n' : Nat} {A : Option Addr} {f : Nat → Nat} (h : Sq k w lo hi A n f) (e : n = n') : Sq k w lo hi A n' f := by subst e; exact h
theorem sq_tl {k : IntKind} {w : World} {lo hi n : Nat} {A : Option Addr} {f : Nat → Nat} (h : Sq k w lo hi A n f) : Sq k w lo hi A (tl f n) f := by
  have hle := tl_le f n
  refine ⟨fun j hj => ?_, fun hn => ?_⟩
  · rcases Nat.lt_or_ge j n with h1 | h1
    · exact tl_zero f n j hj h1
    · exact h.1 j h1
  · obtain ⟨b, off, e, h1, h2, h3⟩ := h.2 (by omega)
    exact ⟨b, off, e, h1, h2, fun j hj => h3 j (by omega)⟩
theorem rowIs_n {w : World} {b t n n' : Nat} {F : Nat → Value} (h : w.rowIs b t n F) (e : n = n') : w.rowIs b t n' F := by subst e; exact h

/-- a slice of the call's own that fills its block is a row -/
theorem Own.row {k : IntKind} {w : World} {base e g n : Nat} {f : Nat → Nat} (h : Own k w base e (some ⟨g, 0, none⟩) n n f) : w.rowIs g e n (ku k f) := by
  rcases h.2.2 with ⟨hv, _⟩ | ⟨g', cap, cur, hv, hb, hh, hnc, hm, hs, ht⟩
  · cases hv
  · injection hv with h1 h2 h3
    injection h1 with h1
    injection h1 with h1
    subst h1 h3
    refine ⟨cur, hh, by omega, fun j hj => ?_⟩
    have e1 : cur.toList[j]? = (cur.toList.take (n * 1))[j]? := by rw [List.getElem?_take_of_lt (by omega)]
    rw [← Array.getElem?_toList, e1, ht]
    simp [hj]

theorem own_lt {k : IntKind} {w : World} {base e n c g o : Nat} {f : Nat → Nat} (h : Own k w base e (some ⟨g, o, none⟩) n c f) : g < w.heap.size := by
  rcases h.cases with ⟨h1, _⟩ | ⟨g', h1, _, h2, _⟩
  · cases h1
  · injection h1 with h1
    injection h1 with h1
    omega
/-- a new block of written-out numbers -/
theorem sq_new {k : IntKind} {w : World} {cs : Array Value} {e lo hi n : Nat} (f : Nat → Nat) (hl : lo ≤ w.heap.size) (hh : w.heap.size < hi) (hz : ∀ j, n ≤ j → f j = 0) (hc : ∀ j, j < n → cs[j]? = some (.int k ((f j : Nat) : Int))) :
    Sq k (w.alloc (.cells cs e)) lo hi (some ⟨w.heap.size, 0, none⟩) n f :=
  ⟨hz, fun _ => ⟨w.heap.size, 0, rfl, hl, hh, fun j hj => by
    rw [Nat.zero_add, World.cell?_alloc_new]
    exact hc j hj⟩⟩
/-- one number -/
def oneF (x : Nat) : Nat → Nat := fun j => if j = 0 then x else 0
theorem sq_one {k : IntKind} {w : World} {e lo hi x : Nat} {v : Value} (hv : v = .int k ((x : Nat) : Int)) (hl : lo ≤ w.heap.size) (hh : w.heap.size < hi) : Sq k (w.alloc (.cells #[v] e)) lo hi (some ⟨w.heap.size, 0, none⟩) 1 (oneF x) :=
  sq_new (oneF x) hl hh (fun j hj => if_neg (by omega)) fun j hj => by
    obtain rfl : j = 0 := by omega
    subst hv
    rfl

section laws
variable {P : Program} {w : World} {ops : Array Oper} {rest : List Oper} {o : Oper} {a : Act} {Q : Exit → Act → World → Prop}

/-- make([]T, n) -/
theorem wpl_make (hg : o.guard = none) (l c : Operand) (t : TypeId) (hop : o.op = Op.makeSlice t l c) {e : TypeId} {k : IntKind} {bytes : Nat} (he : ElemOf P t e k bytes)
    (kl kc : IntKind) (L C : Int) (n : Nat) (hl : a.eval l = .int kl L) (hc : a.eval c = .int kc C) (hL : L = (n : Int)) (hC : C = (n : Int)) (hb : bytes * n ≤ 281474976710656) (hn : n ≤ maxLen)
    (h : ∀ w', w'.rowIs w.heap.size e n (ku k fun _ => 0) → Below w.heap.size w w' → w.heap.size < w'.heap.size → wpList P ops Q rest (a.put o.dst (.slice (some ⟨w.heap.size, 0, none⟩) n n)) w') :
    wpList P ops Q (o :: rest) a w := by
  refine wpList_plain hg fun K hK => ?_
  have hrun := run_make_row' (P := P) t e (.int k 0) bytes he.ht he.hi rfl kl kc n hb (by unfold maxLen at hn; omega) w
  subst hL hC
  unfold Oper.wp
  simp [execOp, hop, hl, hc, hrun, Result.andThen]
  exact hK _ _ (h _ ((World.rowIs_made w (.int k 0) n e).congr fun i _ => rfl) ((Below.refl _ _).alloc (Nat.le_refl _) _) (by simp))

/-- make([]T, 0, n) -/
theorem wpl_make0 (hg : o.guard = none) (l c : Operand) (t : TypeId) (hop : o.op = Op.makeSlice t l c) {e : TypeId} {k : IntKind} {bytes : Nat} (he : ElemOf P t e k bytes)
    (kl kc : IntKind) (C : Int) (n : Nat) (hl : a.eval l = .int kl 0) (hc : a.eval c = .int kc C) (hC : C = (n : Int)) (hb : bytes * n ≤ 281474976710656) (hn : n ≤ maxLen)
    (h : ∀ w', Own k w' w.heap.size e (some ⟨w.heap.size, 0, none⟩) 0 n (fun _ => 0) → Below w.heap.size w w' → wpList P ops Q rest (a.put o.dst (.slice (some ⟨w.heap.size, 0, none⟩) 0 n)) w') :
    wpList P ops Q (o :: rest) a w := by
  obtain ⟨i, hi, hz⟩ := Option.map_eq_some_iff.1 he.hi
  simp only [Prod.mk.injEq] at hz
  refine wpList_make_own w hg l c t hop w.heap.size e i _ 1 he.ht hi hz.1 hz.2.1 kl kc C n hl hc hC (by rw [hz.2.2]; exact hb) hn (Nat.le_refl _) fun w' h1 h2 => ?_
  exact h w' ⟨fun _ _ => rfl, h1⟩ ((Below.refl _ _).grown h2 (Nat.le_refl _) (fun _ h => by cases h))

theorem app_list (k : IntKind) (f g F : Nat → Nat) (n m : Nat) (h1 : ∀ j, j < n → F j = f j) (h2 : ∀ j, j < m → F (n + j) = g j) :
    (List.range n).map (ku k f) ++ (List.range m).map (ku k g) = (List.range (n + m)).map (ku k F) := by
  rw [List.range_add, List.map_append, List.map_map]
  congr 1
  · exact List.map_congr_left fun j hj => by simp [ku, h1 j (List.mem_range.1 hj)]
  · exact List.map_congr_left fun j hj => by simp [ku, h2 j (List.mem_range.1 hj)]

/-- what an append leaves, said of the slice itself -/
theorem own_value {w' : World} {base e n : Nat} {v : Value} {xs : List Value} (h : w'.ownsRow base e 1 v n xs) : ∃ A c, v = .slice A n c := by
  rcases h.2 with ⟨rfl, rfl⟩ | ⟨g, cap, cur, rfl, _⟩
  · exact ⟨none, 0, rfl⟩
  · exact ⟨_, _, rfl⟩

/-- append(out, src...) onto a slice of the call's own -/
theorem wpl_append (hgd : o.guard = none) (s x : Operand) (t : TypeId) (ho : o.op = .call { callee := .builtin .append, args := #[s, x], argTypes := #[t, t] })
    {e : TypeId} {k : IntKind} {bytes : Nat} (he : ElemOf P t e k bytes) {base : Nat} {A : Option Addr} {n c : Nat} {f : Nat → Nat} (hs : a.eval s = .slice A n c) (hown : Own k w base e A n c f)
    {lo hi : Nat} {A2 : Option Addr} {m c2 : Nat} {g : Nat → Nat} (hx : a.eval x = .slice A2 m c2) (hr : Sq k w lo hi A2 m g) (F : Nat → Nat) (h1 : ∀ j, j < n → F j = f j) (h2 : ∀ j, F (n + j) = g j)
    (h63 : n + m ≤ maxLen) (hbytes : (n + m) * bytes ≤ 140737488355328) (hbase : base ≤ w.heap.size)
    (h : ∀ A' c' w', Own k w' base e A' (n + m) c' F → w.grownBy w' (Value.slice A n c).ownBlock → Below base w w' → (A' = A ∨ A' = some ⟨w.heap.size, 0, none⟩) → wpList P ops Q rest (a.put o.dst (.slice A' (n + m) c')) w') :
    wpList P ops Q (o :: rest) a w := by
  obtain ⟨i, hi, hz⟩ := Option.map_eq_some_iff.1 he.hi
  simp only [Prod.mk.injEq] at hz
  obtain ⟨hz1, hz2, hz3⟩ := hz
  have hrow : ∀ k, (Value.slice A n c).ownBlock = some k → base ≤ k := fun k hk => (hown.2.lt k hk).1
  have hzero : ∀ j, n + m ≤ j → F j = 0 := fun j hj => by rw [show j = n + (j - n) from by omega, h2, hr.1 _ (by omega)]
  by_cases hm : m = 0
  · subst hm
    have hrun : (Builtin.append_ #[t, t] o.type #[.slice A n c, .slice A2 0 c2]).run P w = .ok (.slice A n c) w ∨ ∃ ad, A2 = some ad := by
      rcases A2 with _ | ad
      · refine .inl ?_
        rcases hown.2.2 with ⟨hv, rfl⟩ | ⟨g, cap, cur, hv, _, _, hnc, _⟩
        · rw [hv]; simp [Builtin.append_, run_underlying he.ht, sizeOf, typeInfo, hi, Builtin.lenOf, Builtin.firstCells]
        · rw [hv]; simp [Builtin.append_, run_underlying he.ht, sizeOf, typeInfo, hi, Builtin.lenOf, Builtin.firstCells, hnc, storeCells]
      · exact .inr ⟨ad, rfl⟩
    have hF : Own k w base e A n c F := ⟨fun j hj => hzero j (by omega), by
      rw [show (List.range n).map (ku k F) = (List.range n).map (ku k f) from List.map_congr_left fun j hj => by simp [ku, h1 j (List.mem_range.1 hj)]]
      exact hown.2⟩
    rcases hrun with hrun | ⟨ad, rfl⟩
    · refine wpList_plain hgd fun K hK => ?_
      unfold Oper.wp
      simp [execOp, ho, resolve, invoke, builtin, hs, hx, hrun, Result.andThen]
      exact hK _ _ (h A c w hF (World.grownBy.refl w _) (Below.refl _ _) (.inl rfl))
    · obtain ⟨v', w', hrun, r1, r2, _, r5⟩ := run_append_own_at (P := P) w base t o.type e i (.int k 0) 1 bytes he.ht hi hz1 hz2 hz3 rfl (by decide) (.slice A n c) n _ hown.2 ad 0 c2 [] rfl (fun j u hu => by simp at hu) (fun u hu => by simp at hu) h63 hbytes hbase
      obtain ⟨A', c', rfl⟩ := own_value r1
      refine wpList_plain hgd fun K hK => ?_
      unfold Oper.wp
      simp [execOp, ho, resolve, invoke, builtin, hs, hx, hrun, Result.andThen]
      have hF' : Own k w' base e A' n c' F := ⟨fun j hj => hzero j (by omega), by
        rw [show (List.range n).map (ku k F) = (List.range n).map (ku k f) from List.map_congr_left fun j hj => by simp [ku, h1 j (List.mem_range.1 hj)]]
        simpa using r1⟩
      refine hK _ _ (h A' c' w' hF' r2 ((Below.refl _ _).grown r2 hbase hrow) ?_)
      rcases hF'.cases with ⟨rfl, rfl, _⟩ | ⟨g', rfl, _⟩
      · rcases hown.cases with ⟨rfl, _⟩ | ⟨g, rfl, _⟩
        · exact .inl rfl
        · rcases r5 with r | r <;> simp [Value.ownBlock] at r
      · rcases hown.cases with ⟨rfl, _⟩ | ⟨g, rfl, _⟩ <;> rcases r5 with r | r <;> simp [Value.ownBlock] at r <;> simp [r]
  · obtain ⟨b, off, rfl, _, _, hcell⟩ := hr.2 (by omega)
    obtain ⟨v', w', hrun, r1, r2, _, r5⟩ := run_append_own_at (P := P) w base t o.type e i (.int k 0) 1 bytes he.ht hi hz1 hz2 hz3 rfl (by decide) (.slice A n c) n _ hown.2 ⟨b, off, none⟩ m c2 ((List.range m).map (ku k g)) (by simp)
      (fun j u hu => by
        have hj : j < m := by
          rcases Nat.lt_or_ge j m with h | h
          · exact h
          · rw [List.getElem?_eq_none (by simpa using h)] at hu; cases hu
        rw [List.getElem?_map, List.getElem?_range hj] at hu
        simp only [Option.map_some, Option.some.injEq] at hu
        subst hu
        have e1 : (⟨b, off, none⟩ : Addr).add j = ⟨b, off + j, none⟩ := by
          unfold Addr.add
          split
          · simp
          · rfl
        rw [e1]
        exact hcell j hj) (ku_oneCell k g m) h63 hbytes hbase
    obtain ⟨A', c', rfl⟩ := own_value r1
    rw [app_list k f g F n m h1 (fun j _ => h2 j)] at r1
    refine wpList_plain hgd fun K hK => ?_
    unfold Oper.wp
    simp [execOp, ho, resolve, invoke, builtin, hs, hx, hrun, Result.andThen]
    have hF' : Own k w' base e A' (n + m) c' F := ⟨hzero, r1⟩
    refine hK _ _ (h A' c' w' hF' r2 ((Below.refl _ _).grown r2 hbase hrow) ?_)
    rcases hF'.cases with ⟨rfl, h0, _⟩ | ⟨g', rfl, _⟩
    · omega
    · rcases hown.cases with ⟨rfl, _⟩ | ⟨g, rfl, _⟩ <;> rcases r5 with r | r <;> simp [Value.ownBlock] at r <;> simp [r]

/-- append(out, src...) where there is room -/
theorem wpl_append_fits (hgd : o.guard = none) (s x : Operand) (t : TypeId) (ho : o.op = .call { callee := .builtin .append, args := #[s, x], argTypes := #[t, t] })
    {e : TypeId} {k : IntKind} {bytes : Nat} (he : ElemOf P t e k bytes) {base g0 n c : Nat} {f : Nat → Nat} (hs : a.eval s = .slice (some ⟨g0, 0, none⟩) n c) (hown : Own k w base e (some ⟨g0, 0, none⟩) n c f)
    {lo hi : Nat} {A2 : Option Addr} {m c2 : Nat} {g : Nat → Nat} (hx : a.eval x = .slice A2 m c2) (hr : Sq k w lo hi A2 m g) (F : Nat → Nat) (h1 : ∀ j, j < n → F j = f j) (h2 : ∀ j, F (n + j) = g j)
    (hfit : n + m ≤ c)
    (h : ∀ w', Own k w' base e (some ⟨g0, 0, none⟩) (n + m) c F → w.grownBy w' (some g0) → wpList P ops Q rest (a.put o.dst (.slice (some ⟨g0, 0, none⟩) (n + m) c)) w') :
    wpList P ops Q (o :: rest) a w := by
  obtain ⟨i, hi, hz⟩ := Option.map_eq_some_iff.1 he.hi
  simp only [Prod.mk.injEq] at hz
  obtain ⟨hz1, hz2, hz3⟩ := hz
  have hzero : ∀ j, n + m ≤ j → F j = 0 := fun j hj => by rw [show j = n + (j - n) from by omega, h2, hr.1 _ (by omega)]
  have hcF : (List.range n).map (ku k F) = (List.range n).map (ku k f) := List.map_congr_left fun j hj => by simp [ku, h1 j (List.mem_range.1 hj)]
  by_cases hA : A2 = none
  · subst hA
    have hm : m = 0 := by
      rcases Nat.eq_zero_or_pos m with h0 | h0
      · exact h0
      · obtain ⟨b, off, e, _⟩ := hr.2 h0
        cases e
    subst hm
    have hrun : (Builtin.append_ #[t, t] o.type #[.slice (some ⟨g0, 0, none⟩) n c, .slice none 0 c2]).run P w = .ok (.slice (some ⟨g0, 0, none⟩) n c) w := by
      have hnc := hown.le
      simp [Builtin.append_, run_underlying he.ht, sizeOf, typeInfo, hi, Builtin.lenOf, Builtin.firstCells, hnc, storeCells]
    refine wpList_plain hgd fun K hK => ?_
    unfold Oper.wp
    simp [execOp, ho, resolve, invoke, builtin, hs, hx, hrun, Result.andThen]
    exact hK _ _ (h w ⟨fun j hj => hzero j (by omega), by rw [Nat.add_zero, hcF]; exact hown.2⟩ (World.grownBy.refl w _))
  · obtain ⟨ad, rfl⟩ : ∃ ad, A2 = some ad := by
      cases A2 with
      | none => exact absurd rfl hA
      | some ad => exact ⟨ad, rfl⟩
    refine wpList_append_fits w hgd s x t ho base e i 1 he.ht hi hz2 g0 n c _ hs hown.2 ad m c2 ((List.range m).map (ku k g)) hx (by simp) (fun j u hu => ?_) (ku_oneCell k g m) hfit fun w' r1 r2 => ?_
    · have hj : j < m := by
        rcases Nat.lt_or_ge j m with h | h
        · exact h
        · rw [List.getElem?_eq_none (by simpa using h)] at hu; cases hu
      obtain ⟨b, off, hA2, _, _, hcell⟩ := hr.2 (by omega)
      injection hA2 with hA2
      subst hA2
      rw [List.getElem?_map, List.getElem?_range hj] at hu
      simp only [Option.map_some, Option.some.injEq] at hu
      subst hu
      have e1 : (⟨b, off, none⟩ : Addr).add j = ⟨b, off + j, none⟩ := by
        unfold Addr.add
        split
        · simp
        · rfl
      rw [e1]
      exact hcell j hj
    · rw [app_list k f g F n m h1 (fun j _ => h2 j)] at r1
      exact h w' ⟨hzero, r1⟩ r2

/-- copy(out, src), out a whole row of the call's own -/
theorem wpl_copy (hgd : o.guard = none) (d s : Operand) (t : TypeId) (ho : o.op = .call { callee := .builtin .copy, args := #[d, s], argTypes := #[t, t] })
    {e : TypeId} {k : IntKind} {bytes : Nat} (he : ElemOf P t e k bytes) {b N : Nat} {F : Nat → Nat} (hd : a.eval d = .slice (some ⟨b, 0, none⟩) N N) (hrow : w.rowIs b e N (ku k F))
    {lo hi : Nat} {A2 : Option Addr} {m c2 : Nat} {g : Nat → Nat} (hx : a.eval s = .slice A2 m c2) (hr : Sq k w lo hi A2 m g) (hm : m ≤ N)
    (h : ∀ w', w'.rowIs b e N (ku k fun j => if j < m then g j else F j) → Below b w w' → wpList P ops Q rest (a.put o.dst (goInt m)) w') :
    wpList P ops Q (o :: rest) a w := by
  have hrow0 := hrow
  obtain ⟨cs, hh, hN, hcs⟩ := hrow
  have hcur : cs.toList.length = N := by simpa using hN
  have hlen : ((List.range m).map (ku k g)).length = m := by simp
  refine wpList_copy_splice hgd d s t t ho e he.ht he.size (some ⟨b, 0, none⟩) A2 N N m c2 hd hx b 0 cs.toList e (by simpa using hh) ((List.range m).map (ku k g)) (by simp [Nat.min_eq_left hm]) (fun hpos => ?_) (by simp [hN, hm])
    (ku_oneCell k g m) b w (Below.refl _ _) (Nat.le_refl _) fun w' hw' hb' => ?_
  · have hm0 : 0 < m := by simpa using hpos
    obtain ⟨b2, off, rfl, _, _, hcell⟩ := hr.2 hm0
    refine ⟨rfl, _, rfl, fun j u hu => ?_⟩
    have hj : j < m := by
      rcases Nat.lt_or_ge j m with h | h
      · exact h
      · rw [List.getElem?_eq_none (by simpa using h)] at hu; cases hu
    rw [List.getElem?_map, List.getElem?_range hj] at hu
    simp only [Option.map_some, Option.some.injEq] at hu
    subst hu
    have e1 : (⟨b2, off, none⟩ : Addr).add j = ⟨b2, off + j, none⟩ := by
      unfold Addr.add
      split
      · simp
      · rfl
    rw [e1]
    exact hcell j hj
  · rw [hlen]
    refine h w' ⟨_, hw'.out, ?_, fun j hj => ?_⟩ hb'
    · rw [List.size_toArray, length_splice _ _ _ (by omega), hcur]
    · unfold splice
      simp only [List.take_zero, List.nil_append, Nat.zero_add]
      rw [List.getElem?_toArray]
      by_cases hjm : j < m
      · rw [List.getElem?_append_left (by omega), List.getElem?_map, List.getElem?_range hjm]
        simp [ku, hjm]
      · rw [List.getElem?_append_right (by omega), hlen, List.getElem?_drop, show m + (j - m) = j from by omega, Array.getElem?_toList, hcs j hj]
        simp [ku, hjm]
end laws
end Go.Proofs.Ytmidpholmgmdpaa
