/- SIGNED numbers: Sq, Own, make and append once more, for functions into Int (printed by gen/lawsz.py). -/
/- What a call leaves: one value, and what was there as it was. -/
/- Contracts: the products and powers of residues, in the program and in the reference. -/
import Derived.Test.YtmidpholmgmdpaaLaws
import Derived.Test.YtmidpholmgmdpaaChecked
import Derived.RegionTactic
import Derived.Deep.QuietTactic
import Derived.BigQuiet
import Derived.Test.YtmidpholmgmdpaaAlg
import Derived.Laws.BitsAllLaws
namespace Go.Proofs.Ytmidpholmgmdpaa.Z
open Go.RowKit
set_option linter.unusedVariables false
def ku (k : IntKind) (f : Nat → Int) : Nat → Value := fun j => .int k (f j)

def Sq (k : IntKind) (w : World) (lo hi : Nat) (A : Option Addr) (n : Nat) (f : Nat → Int) : Prop :=
  (∀ j, n ≤ j → f j = 0) ∧ (0 < n → ∃ b off, A = some ⟨b, off, none⟩ ∧ lo ≤ b ∧ b < hi ∧ ∀ j, j < n → w.cell? ⟨b, off + j, none⟩ = some (.int k (f j)))

theorem Sq.below {k : IntKind} {w w' : World} {lo hi B : Nat} {A : Option Addr} {n : Nat} {f : Nat → Int} (h : Sq k w lo hi A n f) (hb : Below B w w') (hB : hi ≤ B) : Sq k w' lo hi A n f :=
  ⟨h.1, fun hn => by
    obtain ⟨b, off, e, h1, h2, h3⟩ := h.2 hn
    exact ⟨b, off, e, h1, h2, fun j hj => (hb.cell (p := ⟨b, off + j, none⟩) (show b < B by omega)).trans (h3 j hj)⟩⟩

theorem Sq.wide {k : IntKind} {w : World} {lo hi lo' hi' : Nat} {A : Option Addr} {n : Nat} {f : Nat → Int} (h : Sq k w lo hi A n f) (hl : lo' ≤ lo) (hh : hi ≤ hi') : Sq k w lo' hi' A n f :=
  ⟨h.1, fun hn => by
    obtain ⟨b, off, e, h1, h2, h3⟩ := h.2 hn
    exact ⟨b, off, e, by omega, by omega, h3⟩⟩

theorem Sq.nil (k : IntKind) (w : World) (lo hi : Nat) (A : Option Addr) : Sq k w lo hi A 0 (fun _ => 0) := ⟨fun _ _ => rfl, fun h => absurd h (by omega)⟩

theorem Sq.congr {k : IntKind} {w : World} {lo hi : Nat} {A : Option Addr} {n : Nat} {f g : Nat → Int} (h : Sq k w lo hi A n f) (e : ∀ j, f j = g j) : Sq k w lo hi A n g := by
  have : f = g := funext e
  subst this
  exact h

theorem Sq.of_row {k : IntKind} {w : World} {b t c n lo hi : Nat} {f g : Nat → Int} (h : w.rowIs b t c (ku k f)) (hn : n ≤ c) (hl : lo ≤ b) (hh : b < hi) (hg : ∀ j, n ≤ j → g j = 0) (he : ∀ j, j < n → f j = g j) :
    Sq k w lo hi (some ⟨b, 0, none⟩) n g :=
  ⟨hg, fun _ => ⟨b, 0, rfl, hl, hh, fun j hj => by
    rw [Nat.zero_add, h.cell (show j < c by omega)]
    simp only [ku, he j hj]⟩⟩

theorem rowIs_set_ku {k : IntKind} {w : World} {b t n : Nat} {f : Nat → Int} (h : w.rowIs b t n (ku k f)) (i : Nat) (x : Int) : (w.setCell ⟨b, i, none⟩ (.int k x)).rowIs b t n (ku k (fun j => if j = i then x else f j)) :=
  (h.set i _).congr fun j _ => by
    simp only [ku]
    split <;> rfl

theorem ku_oneCell (k : IntKind) (f : Nat → Int) (n : Nat) : ∀ u ∈ (List.range n).map (ku k f), u.oneCell' = true := by
  intro u hu
  obtain ⟨j, _, rfl⟩ := List.mem_map.1 hu
  rfl

def Own (k : IntKind) (w : World) (base e : Nat) (A : Option Addr) (n c : Nat) (f : Nat → Int) : Prop :=
  (∀ j, n ≤ j → f j = 0) ∧ w.ownsRow base e 1 (.slice A n c) n ((List.range n).map (ku k f))

theorem Own.nil (k : IntKind) (w : World) (base e : Nat) : Own k w base e none 0 0 (fun _ => 0) := ⟨fun _ _ => rfl, World.ownsRow_nil w base e 1⟩

theorem Own.cases {k : IntKind} {w : World} {base e n c : Nat} {A : Option Addr} {f : Nat → Int} (h : Own k w base e A n c f) :
    (A = none ∧ n = 0 ∧ c = 0) ∨ ∃ g, A = some ⟨g, 0, none⟩ ∧ base ≤ g ∧ g < w.heap.size ∧ n ≤ c ∧ c ≤ maxLen ∧ (∀ j, j < n → w.cell? ⟨g, j, none⟩ = some (ku k f j)) ∧ (∀ j, w.frozen? ⟨g, j, none⟩ = false) := by
  rcases h.2.2 with ⟨hv, hn⟩ | ⟨g, cap, cur, hv, hb, hh, hnc, hm, hs, ht⟩
  · injection hv with h1 h2 h3
    exact .inl ⟨h1, h2, h3⟩
  · injection hv with h1 h2 h3
    subst h1 h3
    refine .inr ⟨g, rfl, hb, ?_, hnc, hm, fun j hj => ?_, fun j => ?_⟩
    · exact (Array.getElem?_eq_some_iff.1 hh).1
    · rw [h.2.cellAt j (by omega)]
      simp [hj]
    · exact h.2.frozenAt j

theorem Own.le {k : IntKind} {w : World} {base e n c : Nat} {A : Option Addr} {f : Nat → Int} (h : Own k w base e A n c f) : n ≤ c := by
  rcases h.cases with ⟨_, h1, h2⟩ | ⟨g, _, _, _, h3, _⟩ <;> omega

theorem Own.sq {k : IntKind} {w : World} {base e n c lo : Nat} {A : Option Addr} {f : Nat → Int} (h : Own k w base e A n c f) (hl : lo ≤ base) : Sq k w lo w.heap.size A n f :=
  ⟨h.1, fun hn => by
    rcases h.cases with ⟨_, h1, _⟩ | ⟨g, rfl, hb, hg, _, _, hc, _⟩
    · omega
    · exact ⟨g, 0, rfl, by omega, hg, fun j hj => by rw [Nat.zero_add, hc j hj]; rfl⟩⟩

theorem Own.of_block {k : IntKind} {w w' : World} {base e n c : Nat} {A : Option Addr} {f : Nat → Int} (h : Own k w base e A n c f)
    (hk : ∀ g, base ≤ g → g < w.heap.size → A = some ⟨g, 0, none⟩ → w'.heap[g]? = w.heap[g]?) : Own k w' base e A n c f := by
  refine ⟨h.1, h.2.1, ?_⟩
  rcases h.2.2 with h1 | ⟨g, cap, cur, hv, hb, hh, hr⟩
  · exact .inl h1
  · injection hv with h1 h2 h3
    exact .inr ⟨g, cap, cur, by rw [h1, h3], hb, (hk g hb (Array.getElem?_eq_some_iff.1 hh).1 h1).trans hh, hr⟩

theorem Own.below {k : IntKind} {w w' : World} {base e n c B : Nat} {A : Option Addr} {f : Nat → Int} (h : Own k w base e A n c f) (hb : Below B w w') (hB : w.heap.size ≤ B) : Own k w' base e A n c f :=
  h.of_block fun g _ hg _ => hb.block g (by omega)

theorem Own.alloc {k : IntKind} {w : World} {base e n c : Nat} {A : Option Addr} {f : Nat → Int} (h : Own k w base e A n c f) (o : Obj) : Own k (w.alloc o) base e A n c f :=
  h.of_block fun g _ hg _ => Below.heap_alloc w o g hg

theorem Own.grown {k : IntKind} {w w' : World} {base e n c : Nat} {A : Option Addr} {f : Nat → Int} {row : Option Nat} (h : Own k w base e A n c f) (hg : w.grownBy w' row) (hne : ∀ g, A = some ⟨g, 0, none⟩ → row ≠ some g) : Own k w' base e A n c f :=
  h.of_block fun g _ hlt hA => hg.block g hlt fun e => hne g hA e.symm

theorem Own.base {k : IntKind} {w : World} {base base' e n c : Nat} {A : Option Addr} {f : Nat → Int} (h : Own k w base e A n c f) (hb : base' ≤ base) : Own k w base' e A n c f := by
  refine ⟨h.1, h.2.1, ?_⟩
  rcases h.2.2 with h1 | ⟨g, cap, cur, hv, hg, hr⟩
  · exact .inl h1
  · exact .inr ⟨g, cap, cur, hv, by omega, hr⟩

theorem Own.congr {k : IntKind} {w : World} {base e n c : Nat} {A : Option Addr} {f g : Nat → Int} (h : Own k w base e A n c f) (hg : ∀ j, f j = g j) : Own k w base e A n c g := by
  have : f = g := funext hg
  subst this
  exact h

theorem Own.of_row {k : IntKind} {w : World} {base e b c n : Nat} {f g : Nat → Int} (h : w.rowIs b e c (ku k f)) (hb : base ≤ b) (hn : n ≤ c) (hc : c ≤ maxLen) (hg : ∀ j, n ≤ j → g j = 0) (he : ∀ j, j < n → f j = g j) :
    Own k w base e (some ⟨b, 0, none⟩) n c g := by
  obtain ⟨cs, hh, hs, hcs⟩ := h
  refine ⟨hg, by simp, .inr ⟨b, c, cs, rfl, hb, hh, hn, hc, by omega, ?_⟩⟩
  apply List.ext_getElem?
  intro j
  by_cases hj : j < n
  · rw [List.getElem?_take_of_lt (by omega), Array.getElem?_toList, hcs j (by omega), List.getElem?_map, List.getElem?_range hj]
    simp [ku, he j hj]
  · rw [List.getElem?_eq_none (by simp; omega), List.getElem?_eq_none (by simp; omega)]

theorem Own.row {k : IntKind} {w : World} {base e g n : Nat} {f : Nat → Int} (h : Own k w base e (some ⟨g, 0, none⟩) n n f) : w.rowIs g e n (ku k f) := by
  rcases h.2.2 with ⟨hv, _⟩ | ⟨g', cap, cur, hv, hb, hh, hnc, hm, hs, ht⟩
  · cases hv
  · injection hv with h1 h2 h3
    injection h1 with h1
    injection h1 with h1
    subst h1 h3
    refine ⟨cur, hh, by omega, fun j hj => ?_⟩
    have e1 : cur.toList[j]? = (cur.toList.take (n * 1))[j]? := by rw [List.getElem?_take_of_lt (by omega)]
    rw [← Array.getElem?_toList, e1, ht]
    simp [hj]

theorem own_lt {k : IntKind} {w : World} {base e n c g o : Nat} {f : Nat → Int} (h : Own k w base e (some ⟨g, o, none⟩) n c f) : g < w.heap.size := by
  rcases h.cases with ⟨h1, _⟩ | ⟨g', h1, _, h2, _⟩
  · cases h1
  · injection h1 with h1
    injection h1 with h1
    omega
theorem sq_new {k : IntKind} {w : World} {cs : Array Value} {e lo hi n : Nat} (f : Nat → Int) (hl : lo ≤ w.heap.size) (hh : w.heap.size < hi) (hz : ∀ j, n ≤ j → f j = 0) (hc : ∀ j, j < n → cs[j]? = some (.int k (f j))) :
    Sq k (w.alloc (.cells cs e)) lo hi (some ⟨w.heap.size, 0, none⟩) n f :=
  ⟨hz, fun _ => ⟨w.heap.size, 0, rfl, hl, hh, fun j hj => by
    rw [Nat.zero_add, World.cell?_alloc_new]
    exact hc j hj⟩⟩
def oneF (x : Int) : Nat → Int := fun j => if j = 0 then x else 0
theorem sq_one {k : IntKind} {w : World} {e lo hi : Nat} {x : Int} {v : Value} (hv : v = .int k x) (hl : lo ≤ w.heap.size) (hh : w.heap.size < hi) : Sq k (w.alloc (.cells #[v] e)) lo hi (some ⟨w.heap.size, 0, none⟩) 1 (oneF x) :=
  sq_new (oneF x) hl hh (fun j hj => if_neg (by omega)) fun j hj => by
    obtain rfl : j = 0 := by omega
    subst hv
    rfl

section laws
variable {P : Program} {w : World} {ops : Array Oper} {rest : List Oper} {o : Oper} {a : Act} {Q : Exit → Act → World → Prop}

theorem wpl_make (hg : o.guard = none) (l c : Operand) (t : TypeId) (hop : o.op = Op.makeSlice t l c) {e : TypeId} {k : IntKind} {bytes : Nat} (he : ElemOf P t e k bytes)
    (kl kc : IntKind) (L C : Int) (n : Nat) (hl : a.eval l = .int kl L) (hc : a.eval c = .int kc C) (hL : L = (n : Int)) (hC : C = (n : Int)) (hb : bytes * n ≤ 281474976710656) (hn : n ≤ maxLen)
    (h : ∀ w', w'.rowIs w.heap.size e n (ku k fun _ => 0) → Below w.heap.size w w' → w.heap.size < w'.heap.size → wpList P ops Q rest (a.put o.dst (.slice (some ⟨w.heap.size, 0, none⟩) n n)) w') :
    wpList P ops Q (o :: rest) a w := by
  refine wpList_plain hg fun K hK => ?_
  have hrun := run_make_row' (P := P) t e (.int k 0) bytes he.ht he.hi rfl kl kc n hb (by unfold maxLen at hn; omega) w
  subst hL hC
  unfold Oper.wp
  simp [execOp, hop, hl, hc, hrun, Result.andThen]
  exact hK _ _ (h _ ((World.rowIs_made w (.int k 0) n e).congr fun i _ => rfl) ((Below.refl _ _).alloc (Nat.le_refl _) _) (by simp))

theorem wpl_make0 (hg : o.guard = none) (l c : Operand) (t : TypeId) (hop : o.op = Op.makeSlice t l c) {e : TypeId} {k : IntKind} {bytes : Nat} (he : ElemOf P t e k bytes)
    (kl kc : IntKind) (C : Int) (n : Nat) (hl : a.eval l = .int kl 0) (hc : a.eval c = .int kc C) (hC : C = (n : Int)) (hb : bytes * n ≤ 281474976710656) (hn : n ≤ maxLen)
    (h : ∀ w', Own k w' w.heap.size e (some ⟨w.heap.size, 0, none⟩) 0 n (fun _ => 0) → Below w.heap.size w w' → wpList P ops Q rest (a.put o.dst (.slice (some ⟨w.heap.size, 0, none⟩) 0 n)) w') :
    wpList P ops Q (o :: rest) a w := by
  obtain ⟨i, hi, hz⟩ := Option.map_eq_some_iff.1 he.hi
  simp only [Prod.mk.injEq] at hz
  refine wpList_make_own w hg l c t hop w.heap.size e i _ 1 he.ht hi hz.1 hz.2.1 kl kc C n hl hc hC (by rw [hz.2.2]; exact hb) hn (Nat.le_refl _) fun w' h1 h2 => ?_
  exact h w' ⟨fun _ _ => rfl, h1⟩ ((Below.refl _ _).grown h2 (Nat.le_refl _) (fun _ h => by cases h))

theorem app_list (k : IntKind) (f g F : Nat → Int) (n m : Nat) (h1 : ∀ j, j < n → F j = f j) (h2 : ∀ j, j < m → F (n + j) = g j) :
    (List.range n).map (ku k f) ++ (List.range m).map (ku k g) = (List.range (n + m)).map (ku k F) := by
  rw [List.range_add, List.map_append, List.map_map]
  congr 1
  · exact List.map_congr_left fun j hj => by simp [ku, h1 j (List.mem_range.1 hj)]
  · exact List.map_congr_left fun j hj => by simp [ku, h2 j (List.mem_range.1 hj)]

theorem wpl_append (hgd : o.guard = none) (s x : Operand) (t : TypeId) (ho : o.op = .call { callee := .builtin .append, args := #[s, x], argTypes := #[t, t] })
    {e : TypeId} {k : IntKind} {bytes : Nat} (he : ElemOf P t e k bytes) {base : Nat} {A : Option Addr} {n c : Nat} {f : Nat → Int} (hs : a.eval s = .slice A n c) (hown : Own k w base e A n c f)
    {lo hi : Nat} {A2 : Option Addr} {m c2 : Nat} {g : Nat → Int} (hx : a.eval x = .slice A2 m c2) (hr : Sq k w lo hi A2 m g) (F : Nat → Int) (h1 : ∀ j, j < n → F j = f j) (h2 : ∀ j, F (n + j) = g j)
    (h63 : n + m ≤ maxLen) (hbytes : (n + m) * bytes ≤ 140737488355328) (hbase : base ≤ w.heap.size)
    (h : ∀ A' c' w', Own k w' base e A' (n + m) c' F → w.grownBy w' (Value.slice A n c).ownBlock → Below base w w' → (A' = A ∨ A' = some ⟨w.heap.size, 0, none⟩) → wpList P ops Q rest (a.put o.dst (.slice A' (n + m) c')) w') :
    wpList P ops Q (o :: rest) a w := by
  obtain ⟨i, hi, hz⟩ := Option.map_eq_some_iff.1 he.hi
  simp only [Prod.mk.injEq] at hz
  obtain ⟨hz1, hz2, hz3⟩ := hz
  have hrow : ∀ k, (Value.slice A n c).ownBlock = some k → base ≤ k := fun k hk => (hown.2.lt k hk).1
  have hzero : ∀ j, n + m ≤ j → F j = 0 := fun j hj => by rw [show j = n + (j - n) from by omega, h2, hr.1 _ (by omega)]
  by_cases hm : m = 0
  · subst hm
    have hrun : (Builtin.append_ #[t, t] o.type #[.slice A n c, .slice A2 0 c2]).run P w = .ok (.slice A n c) w ∨ ∃ ad, A2 = some ad := by
      rcases A2 with _ | ad
      · refine .inl ?_
        rcases hown.2.2 with ⟨hv, rfl⟩ | ⟨g, cap, cur, hv, _, _, hnc, _⟩
        · rw [hv]; simp [Builtin.append_, run_underlying he.ht, sizeOf, typeInfo, hi, Builtin.lenOf, Builtin.firstCells]
        · rw [hv]; simp [Builtin.append_, run_underlying he.ht, sizeOf, typeInfo, hi, Builtin.lenOf, Builtin.firstCells, hnc, storeCells]
      · exact .inr ⟨ad, rfl⟩
    have hF : Own k w base e A n c F := ⟨fun j hj => hzero j (by omega), by
      rw [show (List.range n).map (ku k F) = (List.range n).map (ku k f) from List.map_congr_left fun j hj => by simp [ku, h1 j (List.mem_range.1 hj)]]
      exact hown.2⟩
    rcases hrun with hrun | ⟨ad, rfl⟩
    · refine wpList_plain hgd fun K hK => ?_
      unfold Oper.wp
      simp [execOp, ho, resolve, invoke, builtin, hs, hx, hrun, Result.andThen]
      exact hK _ _ (h A c w hF (World.grownBy.refl w _) (Below.refl _ _) (.inl rfl))
    · obtain ⟨v', w', hrun, r1, r2, _, r5⟩ := run_append_own_at (P := P) w base t o.type e i (.int k 0) 1 bytes he.ht hi hz1 hz2 hz3 rfl (by decide) (.slice A n c) n _ hown.2 ad 0 c2 [] rfl (fun j u hu => by simp at hu) (fun u hu => by simp at hu) h63 hbytes hbase
      obtain ⟨A', c', rfl⟩ := own_value r1
      refine wpList_plain hgd fun K hK => ?_
      unfold Oper.wp
      simp [execOp, ho, resolve, invoke, builtin, hs, hx, hrun, Result.andThen]
      have hF' : Own k w' base e A' n c' F := ⟨fun j hj => hzero j (by omega), by
        rw [show (List.range n).map (ku k F) = (List.range n).map (ku k f) from List.map_congr_left fun j hj => by simp [ku, h1 j (List.mem_range.1 hj)]]
        simpa using r1⟩
      refine hK _ _ (h A' c' w' hF' r2 ((Below.refl _ _).grown r2 hbase hrow) ?_)
      rcases hF'.cases with ⟨rfl, rfl, _⟩ | ⟨g', rfl, _⟩
      · rcases hown.cases with ⟨rfl, _⟩ | ⟨g, rfl, _⟩
        · exact .inl rfl
        · rcases r5 with r | r <;> simp [Value.ownBlock] at r
      · rcases hown.cases with ⟨rfl, _⟩ | ⟨g, rfl, _⟩ <;> rcases r5 with r | r <;> simp [Value.ownBlock] at r <;> simp [r]
  · obtain ⟨b, off, rfl, _, _, hcell⟩ := hr.2 (by omega)
    obtain ⟨v', w', hrun, r1, r2, _, r5⟩ := run_append_own_at (P := P) w base t o.type e i (.int k 0) 1 bytes he.ht hi hz1 hz2 hz3 rfl (by decide) (.slice A n c) n _ hown.2 ⟨b, off, none⟩ m c2 ((List.range m).map (ku k g)) (by simp)
      (fun j u hu => by
        have hj : j < m := by
          rcases Nat.lt_or_ge j m with h | h
          · exact h
          · rw [List.getElem?_eq_none (by simpa using h)] at hu; cases hu
        rw [List.getElem?_map, List.getElem?_range hj] at hu
        simp only [Option.map_some, Option.some.injEq] at hu
        subst hu
        have e1 : (⟨b, off, none⟩ : Addr).add j = ⟨b, off + j, none⟩ := by
          unfold Addr.add
          split
          · simp
          · rfl
        rw [e1]
        exact hcell j hj) (ku_oneCell k g m) h63 hbytes hbase
    obtain ⟨A', c', rfl⟩ := own_value r1
    rw [app_list k f g F n m h1 (fun j _ => h2 j)] at r1
    refine wpList_plain hgd fun K hK => ?_
    unfold Oper.wp
    simp [execOp, ho, resolve, invoke, builtin, hs, hx, hrun, Result.andThen]
    have hF' : Own k w' base e A' (n + m) c' F := ⟨hzero, r1⟩
    refine hK _ _ (h A' c' w' hF' r2 ((Below.refl _ _).grown r2 hbase hrow) ?_)
    rcases hF'.cases with ⟨rfl, h0, _⟩ | ⟨g', rfl, _⟩
    · omega
    · rcases hown.cases with ⟨rfl, _⟩ | ⟨g, rfl, _⟩ <;> rcases r5 with r | r <;> simp [Value.ownBlock] at r <;> simp [r]

theorem wpl_append_fits (hgd : o.guard = none) (s x : Operand) (t : TypeId) (ho : o.op = .call { callee := .builtin .append, args := #[s, x], argTypes := #[t, t] })
    {e : TypeId} {k : IntKind} {bytes : Nat} (he : ElemOf P t e k bytes) {base g0 n c : Nat} {f : Nat → Int} (hs : a.eval s = .slice (some ⟨g0, 0, none⟩) n c) (hown : Own k w base e (some ⟨g0, 0, none⟩) n c f)
    {lo hi : Nat} {A2 : Option Addr} {m c2 : Nat} {g : Nat → Int} (hx : a.eval x = .slice A2 m c2) (hr : Sq k w lo hi A2 m g) (F : Nat → Int) (h1 : ∀ j, j < n → F j = f j) (h2 : ∀ j, F (n + j) = g j)
    (hfit : n + m ≤ c)
    (h : ∀ w', Own k w' base e (some ⟨g0, 0, none⟩) (n + m) c F → w.grownBy w' (some g0) → wpList P ops Q rest (a.put o.dst (.slice (some ⟨g0, 0, none⟩) (n + m) c)) w') :
    wpList P ops Q (o :: rest) a w := by
  obtain ⟨i, hi, hz⟩ := Option.map_eq_some_iff.1 he.hi
  simp only [Prod.mk.injEq] at hz
  obtain ⟨hz1, hz2, hz3⟩ := hz
  have hzero : ∀ j, n + m ≤ j → F j = 0 := fun j hj => by rw [show j = n + (j - n) from by omega, h2, hr.1 _ (by omega)]
  have hcF : (List.range n).map (ku k F) = (List.range n).map (ku k f) := List.map_congr_left fun j hj => by simp [ku, h1 j (List.mem_range.1 hj)]
  by_cases hA : A2 = none
  · subst hA
    have hm : m = 0 := by
      rcases Nat.eq_zero_or_pos m with h0 | h0
      · exact h0
      · obtain ⟨b, off, e, _⟩ := hr.2 h0
        cases e
    subst hm
    have hrun : (Builtin.append_ #[t, t] o.type #[.slice (some ⟨g0, 0, none⟩) n c, .slice none 0 c2]).run P w = .ok (.slice (some ⟨g0, 0, none⟩) n c) w := by
      have hnc := hown.le
      simp [Builtin.append_, run_underlying he.ht, sizeOf, typeInfo, hi, Builtin.lenOf, Builtin.firstCells, hnc, storeCells]
    refine wpList_plain hgd fun K hK => ?_
    unfold Oper.wp
    simp [execOp, ho, resolve, invoke, builtin, hs, hx, hrun, Result.andThen]
    exact hK _ _ (h w ⟨fun j hj => hzero j (by omega), by rw [Nat.add_zero, hcF]; exact hown.2⟩ (World.grownBy.refl w _))
  · obtain ⟨ad, rfl⟩ : ∃ ad, A2 = some ad := by
      cases A2 with
      | none => exact absurd rfl hA
      | some ad => exact ⟨ad, rfl⟩
    refine wpList_append_fits w hgd s x t ho base e i 1 he.ht hi hz2 g0 n c _ hs hown.2 ad m c2 ((List.range m).map (ku k g)) hx (by simp) (fun j u hu => ?_) (ku_oneCell k g m) hfit fun w' r1 r2 => ?_
    · have hj : j < m := by
        rcases Nat.lt_or_ge j m with h | h
        · exact h
        · rw [List.getElem?_eq_none (by simpa using h)] at hu; cases hu
      obtain ⟨b, off, hA2, _, _, hcell⟩ := hr.2 (by omega)
      injection hA2 with hA2
      subst hA2
      rw [List.getElem?_map, List.getElem?_range hj] at hu
      simp only [Option.map_some, Option.some.injEq] at hu
      subst hu
      have e1 : (⟨b, off, none⟩ : Addr).add j = ⟨b, off + j, none⟩ := by
        unfold Addr.add
        split
        · simp
        · rfl
      rw [e1]
      exact hcell j hj
    · rw [app_list k f g F n m h1 (fun j _ => h2 j)] at r1
      exact h w' ⟨hzero, r1⟩ r2

theorem wpl_copy (hgd : o.guard = none) (d s : Operand) (t : TypeId) (ho : o.op = .call { callee := .builtin .copy, args := #[d, s], argTypes := #[t, t] })
    {e : TypeId} {k : IntKind} {bytes : Nat} (he : ElemOf P t e k bytes) {b N : Nat} {F : Nat → Int} (hd : a.eval d = .slice (some ⟨b, 0, none⟩) N N) (hrow : w.rowIs b e N (ku k F))
    {lo hi : Nat} {A2 : Option Addr} {m c2 : Nat} {g : Nat → Int} (hx : a.eval s = .slice A2 m c2) (hr : Sq k w lo hi A2 m g) (hm : m ≤ N)
    (h : ∀ w', w'.rowIs b e N (ku k fun j => if j < m then g j else F j) → Below b w w' → wpList P ops Q rest (a.put o.dst (goInt m)) w') :
    wpList P ops Q (o :: rest) a w := by
  have hrow0 := hrow
  obtain ⟨cs, hh, hN, hcs⟩ := hrow
  have hcur : cs.toList.length = N := by simpa using hN
  have hlen : ((List.range m).map (ku k g)).length = m := by simp
  refine wpList_copy_splice hgd d s t t ho e he.ht he.size (some ⟨b, 0, none⟩) A2 N N m c2 hd hx b 0 cs.toList e (by simpa using hh) ((List.range m).map (ku k g)) (by simp [Nat.min_eq_left hm]) (fun hpos => ?_) (by simp [hN, hm])
    (ku_oneCell k g m) b w (Below.refl _ _) (Nat.le_refl _) fun w' hw' hb' => ?_
  · have hm0 : 0 < m := by simpa using hpos
    obtain ⟨b2, off, rfl, _, _, hcell⟩ := hr.2 hm0
    refine ⟨rfl, _, rfl, fun j u hu => ?_⟩
    have hj : j < m := by
      rcases Nat.lt_or_ge j m with h | h
      · exact h
      · rw [List.getElem?_eq_none (by simpa using h)] at hu; cases hu
    rw [List.getElem?_map, List.getElem?_range hj] at hu
    simp only [Option.map_some, Option.some.injEq] at hu
    subst hu
    have e1 : (⟨b2, off, none⟩ : Addr).add j = ⟨b2, off + j, none⟩ := by
      unfold Addr.add
      split
      · simp
      · rfl
    rw [e1]
    exact hcell j hj
  · rw [hlen]
    refine h w' ⟨_, hw'.out, ?_, fun j hj => ?_⟩ hb'
    · rw [List.size_toArray, length_splice _ _ _ (by omega), hcur]
    · unfold splice
      simp only [List.take_zero, List.nil_append, Nat.zero_add]
      rw [List.getElem?_toArray]
      by_cases hjm : j < m
      · rw [List.getElem?_append_left (by omega), List.getElem?_map, List.getElem?_range hjm]
        simp [ku, hjm]
      · rw [List.getElem?_append_right (by omega), hlen, List.getElem?_drop, show m + (j - m) = j from by omega, Array.getElem?_toList, hcs j hj]
        simp [ku, hjm]
end laws
end Go.Proofs.Ytmidpholmgmdpaa.Z

namespace Go.Proofs.Ytmidpholmgmdpaa
open Go.RowKit

/-- a call that returns one value and leaves what was there -/
def RetV (w : World) (v : Value) (e : Ending) (w' : World) : Prop := e = .returned v ∧ Below w.heap.size w w'

/-- a call that returns one value and leaves the world as it is -/
def RetP (w : World) (v : Value) (e : Ending) (w' : World) : Prop := e = .returned v ∧ w = w'
theorem RetP.v {w : World} {v : Value} {e : Ending} {w' : World} (h : RetP w v e w') : RetV w v e w' := ⟨h.1, by rw [← h.2]; exact Below.refl _ _⟩
end Go.Proofs.Ytmidpholmgmdpaa

namespace Go.Proofs.Ytmidpholmgmdpaa
open Go.RowKit

theorem mul_lt_int32 {x y : Nat} (h1 : x ≤ 4294967295) (h2 : y ≤ 4294967295) : 0 ≤ (x : Int) * (y : Int) ∧ (x : Int) * (y : Int) ≤ 18446744065119617025 := by
  refine ⟨Int.mul_nonneg (by omega) (by omega), ?_⟩
  have := Nat.mul_le_mul h1 h2
  have e : (x : Int) * (y : Int) = ((x * y : Nat) : Int) := by simp
  rw [e]
  omega

theorem mulm_any (a b n p : Nat) (w : World) (ha : a ≤ 4294967295) (hb : b ≤ 4294967295) (hn : 0 < n) (hn2 : n ≤ 4294967295) (hc : w.cell? ⟨p, 0, none⟩ = some (.int .u64 (n : Int))) :
    Calls Try.prog 73 #[.int .u32 a, .int .u32 b, .pointer (some ⟨p, 0, none⟩)] w (RetP w (.int .u32 ((a * b % n : Nat) : Int))) := by
  obtain ⟨h1, h2⟩ := mul_lt_int32 ha hb
  have h3 : 0 ≤ (a : Int) * (b : Int) % (n : Int) := Int.emod_nonneg _ (by omega)
  have h4 : (a : Int) * (b : Int) % (n : Int) < (n : Int) := Int.emod_lt_of_pos _ (by omega)
  go_enter Try.func73, Try.ntmps73
  go_wp2
  go_ret
  exact ⟨by simp, rfl⟩

theorem rtimes_any (a b n : Nat) (w : World) (ha : a ≤ 4294967295) (hb : b ≤ 4294967295) (hn : 0 < n) (hn2 : n ≤ 4294967295) :
    Calls Try.prog 75 #[.int .u32 a, .int .u32 b, .int .u32 n] w (RetP w (.int .u32 ((a * b % n : Nat) : Int))) := by
  obtain ⟨h1, h2⟩ := mul_lt_int32 ha hb
  have h3 : 0 ≤ (a : Int) * (b : Int) % (n : Int) := Int.emod_nonneg _ (by omega)
  have h4 : (a : Int) * (b : Int) % (n : Int) < (n : Int) := Int.emod_lt_of_pos _ (by omega)
  go_enter Try.func75, Try.ntmps75
  go_wp2
  go_ret
  exact ⟨by simp, rfl⟩

/-- what holds at the head of a power's loop -/
def PwR (A E n : Nat) (a e out : Value) : Prop := ∃ a' e' o : Nat, a = .int .u32 (a' : Int) ∧ e = .int .u64 (e' : Int) ∧ out = .int .u32 (o : Int) ∧ a' ≤ 4294967295 ∧ e' ≤ E ∧ o < n ∧ o * a' ^ e' % n = A ^ E % n

theorem pwr_step {n o a e X : Nat} (h : o * a ^ e % n = X) : (if e % 2 = 1 then o * a % n else o) * (a * a % n) ^ (e / 2) % n = X := by
  have h2 : (a * a % n) ^ (e / 2) % n = (a * a) ^ (e / 2) % n := by rw [← Nat.pow_mod]
  have h3 : (a * a) ^ (e / 2) = a ^ (2 * (e / 2)) := by rw [Nat.pow_mul, Nat.pow_two]
  have h4 : ∀ y, y * (a * a % n) ^ (e / 2) % n = y * a ^ (2 * (e / 2)) % n := fun y => by rw [Nat.mul_mod, h2, ← Nat.mul_mod, h3]
  rw [h4, ← h]
  split
  · rename_i ho
    rw [Nat.mod_mul_mod, Nat.mul_assoc]
    congr 2
    conv => rhs; rw [show e = 2 * (e / 2) + 1 by omega, Nat.pow_succ]
    rw [Nat.mul_comm]
  · congr 3
    omega

set_option maxHeartbeats 1000000 in
theorem rpower_any (a e n : Nat) (w : World) (ha : a ≤ 4294967295) (he : e < 18446744073709551616) (hn : 2 ≤ n) (hn2 : n ≤ 4294967295) :
    Calls Try.prog 74 #[.int .u32 a, .int .u64 e, .int .u32 n] w (RetP w (.int .u32 ((a ^ e % n : Nat) : Int))) := by
  go_enter Try.func74, Try.ntmps74
  go_wp2
  go_loopw [0, 1, 7] (fun x y o wr => PwR a e n x y o ∧ wr = w) (fun _ y _ _ => (intOf y).toNat)
  case atStart => exact ⟨⟨a, e, 1, rfl, rfl, rfl, ha, Nat.le_refl _, by omega, by rw [Nat.one_mul]⟩, rfl⟩
  case round =>
    obtain ⟨⟨a', e', o, rfl, rfl, rfl, ha', he', ho, hr⟩, rfl⟩ := hrel
    by_cases h0 : e' = 0
    · subst h0
      rw [Nat.pow_zero, Nat.mul_one, Nat.mod_eq_of_lt ho] at hr
      have HR := Lib.hid hr
      clear hr
      go_wp2
      go_ret
      exact ⟨by rw [← HR.out]; rfl, rfl⟩
    · have hgt : decide ((e' : Int) > 0) = true := decide_eq_true (by omega)
      have HS := Lib.hid (pwr_step hr)
      have hodm := Nat.mod_lt e' (show 0 < 2 by omega)
      have hm1 : o * a' % n < n := Nat.mod_lt _ (by omega)
      have hm2 : a' * a' % n < n := Nat.mod_lt _ (by omega)
      clear hr
      by_cases hod : e' % 2 = 1
      · have hodi : ((e' : Int) % 2 == 1) = true := by simp; omega
        have HOD := Lib.hid hod
        clear hod
        go_wp2_with fail
        refine (rtimes_any o a' n _ (by omega) ha' (by omega) hn2).mono ?_
        rintro r w1 ⟨rfl, rfl⟩
        go_wp2_with fail
        refine (rtimes_any a' a' n _ ha' ha' (by omega) hn2).mono ?_
        rintro r w1 ⟨rfl, rfl⟩
        go_wp2
        go_roundw
        case rel =>
          have h := HS.out
          rw [if_pos HOD.out] at h
          exact ⟨⟨a' * a' % n, e' / 2, o * a' % n, by go_num, by go_num, by go_num, by omega, by omega, hm1, h⟩, trivial⟩
        case measure => simp [intOf]; omega
      · have hodi : ((e' : Int) % 2 == 1) = false := by simp; omega
        have HOD := Lib.hid hod
        clear hod
        go_wp2_with fail
        refine (rtimes_any a' a' n _ ha' ha' (by omega) hn2).mono ?_
        rintro r w1 ⟨rfl, rfl⟩
        go_wp2
        go_roundw
        case rel =>
          have h := HS.out
          rw [if_neg HOD.out] at h
          exact ⟨⟨a' * a' % n, e' / 2, o, by go_num, by go_num, rfl, by omega, by omega, ho, h⟩, trivial⟩
        case measure => simp [intOf]; omega

theorem prodf_any (n : Nat) (w : World) (hn2 : n ≤ 4294967295) :
    Calls Try.prog 71 #[.int .u32 n] w (fun e w' => e = .returned (.func (.func 73) #[] #[.pointer (some ⟨w.heap.size, 0, none⟩)]) ∧ w' = w.alloc (.cells #[.int .u64 (n : Int)] 82)) := by
  go_enter Try.func71, Try.ntmps71
  go_wp2
  go_ret
  exact ⟨rfl, rfl⟩

theorem and1_u64 (e : Nat) (he : e < 18446744073709551616) : bits .and .u64 (e : Int) 1 = ((e % 2 : Nat) : Int) := by
  have h := u64_and_nat e 1 he (by omega)
  rw [Nat.and_one_is_mod] at h
  exact h
theorem and1_u32 (e : Nat) (he : e < 4294967296) : bits .and .u32 (e : Int) 1 = ((e % 2 : Nat) : Int) := by
  have h := u32_and_nat e 1 he (by omega)
  rw [Nat.and_one_is_mod] at h
  exact h

set_option maxHeartbeats 1000000 in
theorem power_p (a e n : Nat) (w : World) (ha : a ≤ 4294967295) (he : e < 18446744073709551616) (hn : 2 ≤ n) (hn2 : n ≤ 4294967295) :
    Calls Try.prog 69 #[.int .u32 a, .int .u64 e, .int .u32 n] w (RetV w (.int .u32 ((a ^ e % n : Nat) : Int))) := by
  go_enter Try.func69, Try.ntmps69
  go_wp2_with fail
  refine (prodf_any n w hn2).mono ?_
  rintro r w1 ⟨rfl, hw1⟩
  have hb0 : Below w.heap.size w w1 := by rw [hw1]; exact (Below.refl _ _).alloc (Nat.le_refl _) _
  have hc : w1.cell? ⟨w.heap.size, 0, none⟩ = some (.int .u64 (n : Int)) := by rw [hw1, World.cell?_alloc_new]; rfl
  clear hw1
  go_wp2
  go_loopw [0, 1, 8] (fun x y o wr => PwR a e n x y o ∧ wr = w1) (fun _ y _ _ => (intOf y).toNat)
  case atStart => exact ⟨⟨a, e, 1, rfl, rfl, rfl, ha, Nat.le_refl _, by omega, by rw [Nat.one_mul]⟩, rfl⟩
  case round =>
    obtain ⟨⟨a', e', o, rfl, rfl, rfl, ha', he', ho, hr⟩, rfl⟩ := hrel
    by_cases h0 : e' = 0
    · subst h0
      rw [Nat.pow_zero, Nat.mul_one, Nat.mod_eq_of_lt ho] at hr
      have HR := Lib.hid hr
      clear hr
      go_wp2
      go_ret
      exact ⟨by rw [← HR.out]; rfl, hb0⟩
    · have hgt : decide ((e' : Int) > 0) = true := decide_eq_true (by omega)
      have HS := Lib.hid (pwr_step hr)
      have hodm := Nat.mod_lt e' (show 0 < 2 by omega)
      have hm1 : o * a' % n < n := Nat.mod_lt _ (by omega)
      have hm2 : a' * a' % n < n := Nat.mod_lt _ (by omega)
      clear hr
      by_cases hod : e' % 2 = 1
      · have hodi : (bits BinOp.and IntKind.u64 (e' : Int) 1 == 1) = true := by rw [and1_u64 e' (by omega), hod]; rfl
        have HOD := Lib.hid hod
        clear hod
        go_wp2_with fail
        refine (mulm_any o a' n _ _ (by omega) ha' (by omega) hn2 hc).mono ?_
        rintro r w1 ⟨rfl, rfl⟩
        go_wp2_with fail
        refine (mulm_any a' a' n _ _ ha' ha' (by omega) hn2 hc).mono ?_
        rintro r w1 ⟨rfl, rfl⟩
        go_wp2
        go_roundw
        case rel =>
          have h := HS.out
          rw [if_pos HOD.out] at h
          exact ⟨⟨a' * a' % n, e' / 2, o * a' % n, by go_num, by go_num, by go_num, by omega, by omega, hm1, h⟩, trivial⟩
        case measure => simp [intOf]; omega
      · have hodi : (bits BinOp.and IntKind.u64 (e' : Int) 1 == 1) = false := by rw [and1_u64 e' (by omega), show e' % 2 = 0 by omega]; rfl
        have HOD := Lib.hid hod
        clear hod
        go_wp2_with fail
        refine (mulm_any a' a' n _ _ ha' ha' (by omega) hn2 hc).mono ?_
        rintro r w1 ⟨rfl, rfl⟩
        go_wp2
        go_roundw
        case rel =>
          have h := HS.out
          rw [if_neg HOD.out] at h
          exact ⟨⟨a' * a' % n, e' / 2, o, by go_num, by go_num, rfl, by omega, by omega, ho, h⟩, trivial⟩
        case measure => simp [intOf]; omega
end Go.Proofs.Ytmidpholmgmdpaa
