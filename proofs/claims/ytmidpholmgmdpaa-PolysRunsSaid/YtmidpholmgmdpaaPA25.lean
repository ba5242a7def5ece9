/- A slice of plan steps that came in. -/
import Derived.Test.YtmidpholmgmdpaaSqZArg
import Derived.Test.YtmidpholmgmdpaaC25
import Derived.Deep.Slices
import Derived.Deep.Fields
import Derived.ChangeSame
import Derived.OpenShut
namespace Go.Proofs.Ytmidpholmgmdpaa
open Go.ChangeShapes Go.WideShapes Go.Deep Go.RowKit
set_option linter.unusedVariables false
section
variable {H : Type} {enc : TypeId × Value → H} {P : Program} {w : World} {base : Nat} {spare : Nat → Bool} {held : Bool}
theorem open_slice_fields {t e : TypeId} {fs : Array Field} {fuel : Nat} {cs : List Value} {x : DataW H × List MemPlace} (ht : P.underlying t = some (.slice e)) (he : P.underlying e = some (.struct fs))
    (hone : oneCellFields P fs = true) (hC : P.cellsOf e = fs.size) (h : DataW.trod enc P w base spare held fuel t cs = some x) :
    (cs = [.slice none 0 0] ∧ x = (.nil, [])) ∨
    ∃ (a : Addr) (len cap m : Nat), cs = [.slice (some a) len cap] ∧ len ≤ cap ∧ cap ≤ maxLen ∧ m = (if spare a.block then cap else len) ∧
      ∀ i, i < m → ∃ (ys : List (DataW H × List MemPlace)) (n : Nat),
        ∀ (j : Nat) (f : Field), fs[j]? = some f → ∃ (v : Value) (y : DataW H × List MemPlace), w.cell? (a.add (i * fs.size + j)) = some v ∧ ys[j]? = some y ∧ DataW.trod enc P w base spare held n f.type [v] = some y := by
  rcases open_slice ht h with h0 | ⟨a, len, cap, m, n, D, Pl, hcs, hb, hl, hm, hmm, hx, hi⟩
  · exact .inl h0
  · refine .inr ⟨a, len, cap, m, hcs, hl, hm, hmm, fun i him => ?_⟩
    obtain ⟨cs', hc, ht'⟩ := hi i him
    rw [hC] at hc
    obtain ⟨ys, n', hn', hy, hlen, hyl, hf⟩ := DataW.trod_struct he ht'
    obtain ⟨_, hcl, hat⟩ := World.cells?_some hc
    refine ⟨ys, n', fun j f hj => ?_⟩
    obtain ⟨ho, hk⟩ := hone_of hone j f hj
    have hjl : j < fs.size := (Array.getElem?_eq_some_iff.1 hj).1
    have hcell := hat j hjl
    have hv : cs'[j]? = some (cs'[j]'(by omega)) := List.getElem?_eq_getElem (by omega)
    have h1 := hf j f hj
    rw [ho, hk] at h1
    have hone' : (cs'.drop j).take 1 = [cs'[j]'(by omega)] := by
      rw [List.drop_eq_getElem_cons (by omega)]
      rfl
    rw [hone'] at h1
    have hys : ys[j]? = some (ys[j]'(by omega)) := List.getElem?_eq_getElem (by omega)
    refine ⟨_, _, ?_, hys, h1.trans hys⟩
    rw [← Go.Deep.add_add, hcell, hv]
end
def IsRowA (w : World) (a : Option Addr) (len cap : Nat) (zs : List Int) : Prop :=
  (a = none ∧ len = 0 ∧ cap = 0 ∧ zs = []) ∨
  ∃ x, a = some x ∧ len ≤ cap ∧ cap ≤ maxLen ∧ zs.length = cap ∧ (∀ i, i < zs.length → w.cell? (x.add i) = some (.int .i64 (zs.getD i 0))) ∧ ∀ n ∈ zs, (Lit.int .i64 n).wf = true
def IsPlan (w : World) (a : Option Addr) (len cap : Nat) : Prop :=
  (a = none ∧ len = 0 ∧ cap = 0) ∨ ∃ x, a = some x ∧ len ≤ cap ∧ cap ≤ maxLen ∧ ∀ i, i < len → ∃ (m : Bool) (p q f : Int) (C : Option Addr) (l c : Nat) (zs : List Int),
    w.cell? (x.add (i * 5 + 0)) = some (.bool m) ∧ w.cell? (x.add (i * 5 + 1)) = some (.int .i64 p) ∧ w.cell? (x.add (i * 5 + 2)) = some (.int .i64 q) ∧ w.cell? (x.add (i * 5 + 3)) = some (.int .i64 f) ∧ w.cell? (x.add (i * 5 + 4)) = some (.slice C l c) ∧ IsRowA w C l c zs
theorem open_plan {H : Type} {enc : TypeId × Value → H} {w : World} {base : Nat} {held : Bool} {fuel : Nat} {a : Option Addr} {len cap : Nat} {x : DataW H × List MemPlace} (h : DataW.trod enc Try.prog w base (fun _ => true) held fuel 32 [.slice a len cap] = some x) : IsPlan w a len cap := by
  rcases open_slice_fields Try.underlying32 Try.underlying37 (by kernel_rfl) (by kernel_rfl) h with ⟨hcs, _⟩ | ⟨y, l, c, m, hcs, hl, hc, hm, hf⟩
  · injection hcs with hcs
    injection hcs with h1 h2 h3
    exact .inl ⟨h1, h2, h3⟩
  · injection hcs with hcs
    injection hcs with h1 h2 h3
    subst h1 h2 h3
    refine .inr ⟨y, rfl, hl, hc, fun i hi => ?_⟩
    have him : i < m := by
      rw [hm]
      split <;> omega
    obtain ⟨ys, n, hj⟩ := hf i him
    obtain ⟨v0, y0, c0, _, t0⟩ := hj 0 _ rfl
    obtain ⟨v1, y1, c1, _, t1⟩ := hj 1 _ rfl
    obtain ⟨v2, y2, c2, _, t2⟩ := hj 2 _ rfl
    obtain ⟨v3, y3, c3, _, t3⟩ := hj 3 _ rfl
    obtain ⟨v4, y4, c4, _, t4⟩ := hj 4 _ rfl
    obtain ⟨b, hb, _⟩ := DataW.trod_bool Try.underlying4 t0
    obtain ⟨z1, hz1, _⟩ := DataW.trod_int Try.underlying3 t1
    obtain ⟨z2, hz2, _⟩ := DataW.trod_int Try.underlying3 t2
    obtain ⟨z3, hz3, _⟩ := DataW.trod_int Try.underlying2 t3
    injection hb with hb
    injection hz1 with hz1
    injection hz2 with hz2
    injection hz3 with hz3
    subst hb hz1 hz2 hz3
    rcases open_ints Try.underlying23 Try.underlying2 (by kernel_rfl) t4 with ⟨hcs, _⟩ | ⟨x, l, c, zs, hcs, _, hl, hm, hz, _, hcell, hwz⟩
    · injection hcs with hcs
      subst hcs
      exact ⟨b, z1, z2, z3, none, 0, 0, [], c0, c1, c2, c3, c4, .inl ⟨rfl, rfl, rfl, rfl⟩⟩
    · injection hcs with hcs
      subst hcs
      exact ⟨b, z1, z2, z3, some x, l, c, zs, c0, c1, c2, c3, c4, .inr ⟨_, rfl, hl, hm, by simpa using hz, hcell, hwz⟩⟩
theorem pln_arg {w : World} {a : Option Addr} {len cap : Nat} (h : IsPlan w a len cap) : ∃ s, Pln w w.heap.size a len s ∧ len ≤ 9223372036854775807 := by
  rcases h with ⟨_, rfl, _⟩ | ⟨x, rfl, hl, hm, hf⟩
  · exact ⟨fun _ => ⟨false, 0, 0, 0, 0, fun _ => 0⟩, fun h => absurd h (Nat.not_lt_zero _), by omega⟩
  · have hs : ∀ i, ∃ S : PS, i < len → ∀ g off, x = ⟨g, off, none⟩ → StpAt w w.heap.size g (off + i * 5) S := fun i => by
      by_cases hi : i < len
      · obtain ⟨m, p, q, f, C, l, c, zs, c0, c1, c2, c3, c4, hr⟩ := hf i hi
        obtain ⟨F, hF, hl9⟩ := sqz_arg hr
        refine ⟨⟨m, p, q, f, l, F⟩, fun _ g off e => ?_⟩
        subst e
        have ea : ∀ j, (⟨g, off, none⟩ : Addr).add j = ⟨g, off + j, none⟩ := fun j => by
          unfold Addr.add
          split
          · simp
          · rfl
        rw [ea] at c0 c1 c2 c3 c4
        have e0 : ∀ j, off + (i * 5 + j) = off + i * 5 + j := fun j => by omega
        rw [e0] at c0 c1 c2 c3 c4
        exact ⟨c0, c1, c2, c3, C, c, c4, hF, hl9⟩
      · exact ⟨⟨false, 0, 0, 0, 0, fun _ => 0⟩, fun h => absurd h hi⟩
    refine ⟨fun i => Classical.choose (hs i), fun hn => ?_, by unfold maxLen at hm; omega⟩
    obtain ⟨b, off, spot⟩ := x
    obtain ⟨m, p, q, f, C, l, c, zs, c0, _⟩ := hf 0 hn
    have hspot : spot = none := by simpa [Addr.add] using World.cell?_spot c0
    subst hspot
    exact ⟨b, off, rfl, by simpa [Addr.add] using World.block_lt_of_cell? w _ c0, fun i hi => Classical.choose_spec (hs i) hi b off rfl⟩
end Go.Proofs.Ytmidpholmgmdpaa
