/- What the reference's Formal of layer 25 keeps: the registers, a row of rows. -/
import Derived.Test.YtmidpholmgmdpaaPd25
namespace Go.Proofs.Ytmidpholmgmdpaa
open Go.RowKit
set_option linter.unusedVariables false

theorem zsum_cgP {t : Nat} {f g : Nat → Int} (n : Nat) (h : ∀ i, i < n → Cg t (f i) (g i)) : Cg t (zsum f n) (zsum g n) := by
  induction n with
  | zero => exact Cg.refl t _
  | succ n ih => exact (ih fun i hi => h i (by omega)).add (h n (by omega))
theorem cnv_cg {t : Nat} {f g f' g' : Nat → Int} (hf : ∀ q, Cg t (f q) (f' q)) (hg : ∀ q, Cg t (g q) (g' q)) (q : Nat) : Cg t (cnv f g q) (cnv f' g' q) :=
  zsum_cgP _ fun i _ => (hf i).mul (hg (q - i))
theorem cnv_len {f g : Nat → Int} {n1 n2 : Nat} (hf : ∀ j, n1 ≤ j → f j = 0) (hg : ∀ j, n2 ≤ j → g j = 0) (q : Nat) (hq : n1 + n2 ≤ q) : cnv f g q = 0 :=
  zsum_zero _ fun i hi => by
    rcases Nat.lt_or_ge i n1 with h | h
    · rw [hg (q - i) (by omega), Int.mul_zero]
    · rw [hf i h, Int.zero_mul]
/-- what a register holds -/
def fR (t : Nat) (s : Nat → PS) (nd : Nat → Bool) (j : Nat) : Nat → Int := fun q => if nd j = true then bal t (plD s j q) else 0
theorem fR_yes {t : Nat} {s : Nat → PS} {nd : Nat → Bool} {j : Nat} (h : nd j = true) (q : Nat) : fR t s nd j q = bal t (plD s j q) := if_pos h
theorem fR_no {t : Nat} {s : Nat → PS} {nd : Nat → Bool} {j : Nat} (h : nd j = false) (q : Nat) : fR t s nd j q = 0 := if_neg (by rw [h]; exact Bool.false_ne_true)
theorem fR_bound {t : Nat} (ho : t % 2 = 1) (htm : t ≤ 2147483647) (s : Nat → PS) (nd : Nat → Bool) (j q : Nat) : -1073741823 ≤ fR t s nd j q ∧ fR t s nd j q ≤ 1073741823 := by
  unfold fR
  split
  · have := bal_bound ho (plD s j q)
    omega
  · omega
/-- a step's polynomial behind k constants -/
def pk (s : Nat → PS) (S : PS) (k : Nat) : Nat → Int := fun q => (if S.mul = true then cnv (plD s S.a.toNat) (plD s S.b.toNat) q else if q = 0 then S.first else 0) + zsum (fun u => S.cs u * plD s u q) k
theorem pk_succ (s : Nat → PS) (S : PS) (k q : Nat) : pk s S (k + 1) q = pk s S k q + S.cs k * plD s k q := by
  unfold pk
  show _ + (_ + S.cs k * plD s k q) = _
  rw [Int.add_assoc]
theorem pk_all {t i : Nat} {s : Nat → PS} (h : stepOk t (i + 1) (s i)) : pk s (s i) (s i).n = plD s (i + 1) := by
  rw [plD_succ h]
  rfl
/-- .. and j coefficients of the next -/
def pkj (s : Nat → PS) (S : PS) (k j : Nat) : Nat → Int := fun q => pk s S k q + (if q < j then S.cs k * plD s k q else 0)
theorem pkj_zero (s : Nat → PS) (S : PS) (k q : Nat) : pkj s S k 0 q = pk s S k q := by
  unfold pkj
  rw [if_neg (by omega), Int.add_zero]
theorem pkj_other (s : Nat → PS) (S : PS) (k j q : Nat) (h : q ≠ j) : pkj s S k (j + 1) q = pkj s S k j q := by
  unfold pkj
  by_cases h2 : q < j
  · rw [if_pos h2, if_pos (by omega)]
  · rw [if_neg h2, if_neg (by omega)]
theorem pkj_here (s : Nat → PS) (S : PS) (k j : Nat) : pkj s S k (j + 1) j = pkj s S k j j + S.cs k * plD s k j := by
  unfold pkj
  rw [if_pos (by omega), if_neg (by omega), Int.add_zero]
theorem fR_cg {t : Nat} {s : Nat → PS} {nd : Nat → Bool} {k : Nat} {c : Int} (h : c ≠ 0 → nd k = true) (q : Nat) : Cg t (c * fR t s nd k q) (c * plD s k q) := by
  by_cases hc : c = 0
  · subst hc
    rw [Int.zero_mul, Int.zero_mul]
    exact Cg.refl t _
  · rw [fR_yes (h hc)]
    exact (Cg.refl t c).mul (bal_cg t _)
theorem pkj_all {t : Nat} {s : Nat → PS} {S : PS} {nd : Nat → Bool} {k l : Nat} (h : S.cs k ≠ 0 → nd k = true) (hl : ∀ q, l ≤ q → fR t s nd k q = 0) (q : Nat) : bal t (pkj s S k l q) = bal t (pk s S (k + 1) q) := by
  refine bal_congr ?_
  rw [pk_succ]
  unfold pkj
  refine (Cg.refl t _).add ?_
  split
  · exact Cg.refl t _
  · have := fR_cg (t := t) (s := s) h q
    rw [hl q (by omega), Int.mul_zero] at this
    exact this
/-- the registers -/
def kS (G : Nat → Option Addr) (l c : Nat → Nat) : Nat → Value := fun j => .slice (G j) (l j) (c j)
def upN {α : Type} (f : Nat → α) (k : Nat) (x : α) : Nat → α := fun j => if j = k then x else f j
structure FmR (t : Nat) (s : Nat → PS) (nd : Nat → Bool) (w : World) (B i : Nat) (O : Value) (G : Nat → Option Addr) (l c : Nat → Nat) : Prop where
  row : w.ownsRow B 23 1 O (i + 1) ((List.range (i + 1)).map (kS G l c))
  own : ∀ j, j ≤ i → Z.Own .i64 w B 2 (G j) (l j) (c j) (fR t s nd j)
  min : ∀ j, j ≤ i → 0 < l j → fR t s nd j (l j - 1) ≠ 0
  le : ∀ j, j ≤ i → l j ≤ 257
theorem FmR.below {t : Nat} {s : Nat → PS} {nd : Nat → Bool} {w w' : World} {B i : Nat} {O : Value} {G : Nat → Option Addr} {l c : Nat → Nat} (h : FmR t s nd w B i O G l c) (hb : Below w.heap.size w w') : FmR t s nd w' B i O G l c where
  row := by
    have hr := h.row
    refine ⟨hr.1, ?_⟩
    rcases hr.2 with h1 | ⟨g, cap, cur, hv, hB, hh, hr⟩
    · exact .inl h1
    · exact .inr ⟨g, cap, cur, hv, hB, (hb.block g (Array.getElem?_eq_some_iff.1 hh).1).trans hh, hr⟩
  own := fun j hj => (h.own j hj).below hb (Nat.le_refl _)
  min := h.min
  le := h.le
theorem FmR.at {t : Nat} {s : Nat → PS} {nd : Nat → Bool} {w : World} {B i : Nat} {O : Value} {G : Nat → Option Addr} {l c : Nat → Nat} (h : FmR t s nd w B i O G l c) : ∃ g cO cur, O = .slice (some ⟨g, 0, none⟩) (i + 1) cO ∧ w.heap[g]? = some (.cells cur 23 (0, 0)) ∧ (B ≤ g ∧ g < w.heap.size) ∧ ∀ j, j ≤ i → w.cell? ⟨g, j, none⟩ = some (.slice (G j) (l j) (c j)) := by
  have hr := h.row
  rcases hr.2 with ⟨_, h1⟩ | ⟨g, cap, cur, hv, hB, hh, _⟩
  · omega
  · subst hv
    refine ⟨g, cap, cur, rfl, hh, ⟨hB, (Array.getElem?_eq_some_iff.1 hh).1⟩, fun j hj => ?_⟩
    rw [hr.cellAt j (by omega)]
    simp [show j < i + 1 by omega, kS]
theorem FmR.push {t : Nat} {s : Nat → PS} {nd : Nat → Bool} {w w' : World} {B i : Nat} {O O' : Value} {G : Nat → Option Addr} {l c : Nat → Nat} {A : Option Addr} {m cA : Nat} (h : FmR t s nd w B i O G l c) (ho : Z.Own .i64 w B 2 A m cA (fR t s nd (i + 1)))
    (hm : 0 < m → fR t s nd (i + 1) (m - 1) ≠ 0) (hl : m ≤ 257) (hr : w'.ownsRow B 23 1 O' (i + 1 + 1) ((List.range (i + 1)).map (kS G l c) ++ [.slice A m cA])) (hg : w.grownBy w' O.ownBlock) :
    FmR t s nd w' B (i + 1) O' (upN G (i + 1) A) (upN l (i + 1) m) (upN c (i + 1) cA) := by
  obtain ⟨g, cO, cur, rfl, hgb, _, _⟩ := h.at
  have keep : ∀ {A m cA f}, Z.Own .i64 w B 2 A m cA f → Z.Own .i64 w' B 2 A m cA f := fun {A m cA f} hk => by
    refine hk.grown hg fun q hA e => ?_
    simp only [Value.ownBlock, Option.some.injEq] at e
    subst e
    rcases hk.2.2 with ⟨hv, _⟩ | ⟨q', cap, cur2, hv, _, hh, _⟩
    · rw [hA] at hv; cases hv
    · rw [hA] at hv
      injection hv with hv
      injection hv with hv
      injection hv with hv
      subst hv
      rw [hgb] at hh
      injection hh with hh
      injection hh with _ hh
      exact absurd hh (by decide)
  have e1 : ∀ {α : Type} (f : Nat → α) (x : α) (j : Nat), j ≤ i → upN f (i + 1) x j = f j := fun f x j hj => if_neg (by omega)
  have e2 : ∀ {α : Type} (f : Nat → α) (x : α), upN f (i + 1) x (i + 1) = x := fun f x => if_pos rfl
  have split : ∀ j, j ≤ i + 1 → j ≤ i ∨ j = i + 1 := fun j hj => by omega
  constructor
  · have : (List.range (i + 1 + 1)).map (kS (upN G (i + 1) A) (upN l (i + 1) m) (upN c (i + 1) cA)) = (List.range (i + 1)).map (kS G l c) ++ [.slice A m cA] := by
      rw [List.range_succ, List.map_append]
      congr 1
      · refine List.map_congr_left fun j hj => ?_
        have := List.mem_range.1 hj
        unfold kS
        rw [e1 _ _ _ (by omega), e1 _ _ _ (by omega), e1 _ _ _ (by omega)]
      · show [kS _ _ _ (i + 1)] = _
        unfold kS
        rw [e2, e2, e2]
    rw [this]
    exact hr
  · intro j hj
    rcases split j hj with hj | rfl
    · rw [e1 _ _ _ hj, e1 _ _ _ hj, e1 _ _ _ hj]
      exact keep (h.own j hj)
    · rw [e2, e2, e2]
      exact keep ho
  · intro j hj
    rcases split j hj with hj | rfl
    · rw [e1 _ _ _ hj]
      exact h.min j hj
    · rw [e2]
      exact hm
  · intro j hj
    rcases split j hj with hj | rfl
    · rw [e1 _ _ _ hj]
      exact h.le j hj
    · rw [e2]
      exact hl
theorem ZOwn.pop {k : IntKind} {w : World} {base e n c g : Nat} {f : Nat → Int} (h : Z.Own k w base e (some ⟨g, 0, none⟩) (n + 1) c f) (h0 : f n = 0) : Z.Own k w base e (some ⟨g, 0, none⟩) n c f := by
  refine ⟨fun j hj => ?_, ?_⟩
  · rcases Nat.eq_or_lt_of_le hj with e1 | e1
    · rw [← e1]; exact h0
    · exact h.1 j e1
  · have h2 := h.2
    rw [List.range_succ, List.map_append] at h2
    exact ownsRow_pop (by simp) h2
section laws
variable {P : Program} {w : World} {ops : Array Oper} {rest : List Oper} {o : Oper} {a : Act} {Q : Exit → Act → World → Prop}
theorem wpl_append1 (hgd : o.guard = none) (s x : Operand) (t : TypeId) (ho : o.op = .call { callee := .builtin .append, args := #[s, x], argTypes := #[t, t] })
    {e : TypeId} (ht : P.underlying t = some (.slice e)) {z : Value} {bytes : Nat} (hi : (P.info? e).map (fun i => (i.zero, i.size, i.bytes)) = some (some z, 1, bytes)) (hzc : z.cells.size = 1)
    {base n : Nat} {v : Value} {xs : List Value} (hs : a.eval s = v) (hown : w.ownsRow base e 1 v n xs) {g c2 : Nat} {u : Value} (hx : a.eval x = .slice (some ⟨g, 0, none⟩) 1 c2) (hu : w.cell? ⟨g, 0, none⟩ = some u) (h1 : u.oneCell' = true)
    (hn : n + 1 ≤ maxLen) (hbytes : (n + 1) * bytes ≤ 140737488355328) (hbase : base ≤ w.heap.size)
    (h : ∀ v' w', w'.ownsRow base e 1 v' (n + 1) (xs ++ [u]) → w.grownBy w' v.ownBlock → wpList P ops Q rest (a.put o.dst v') w') :
    wpList P ops Q (o :: rest) a w := by
  obtain ⟨i, hi, hz⟩ := Option.map_eq_some_iff.1 hi
  simp only [Prod.mk.injEq] at hz
  obtain ⟨hz1, hz2, hz3⟩ := hz
  exact wpList_append_own w hgd s x t ho base e i z 1 bytes ht hi hz1 hz2 hz3 hzc (by decide) v n xs hs hown ⟨g, 0, none⟩ 1 c2 [u] hx rfl (fun j u' hu' => by
    rcases j with _ | j
    · simp only [List.getElem?_cons_zero, Option.some.injEq] at hu'
      subst hu'
      exact hu
    · simp at hu') (fun u' hu' => by
      simp only [List.mem_singleton] at hu'
      subst hu'
      exact h1) hn hbytes hbase fun v' w' r1 r2 _ => h v' w' r1 r2
end laws
end Go.Proofs.Ytmidpholmgmdpaa
