/- Written-out lists in memory. -/
import Derived.Test.YtbajapjaejpcjaaRet
import Derived.Test.YtbajapjaejpcjaaPlain
namespace Go.Proofs.Ytbajapjaejpcjaa
open Go.RowKit
set_option linter.unusedVariables false

/-- a written-out list -/
def litF (l : List Nat) : Nat → Nat := fun j => l.getD j 0

theorem sq_list (k : IntKind) (w : World) (e lo hi : Nat) (l : List Nat) (hl : lo ≤ w.heap.size) (hh : w.heap.size < hi) :
    Sq k (w.alloc (.cells (l.map fun (x : Nat) => Value.int k (x : Int)).toArray e)) lo hi (some ⟨w.heap.size, 0, none⟩) l.length (litF l) :=
  sq_new (litF l) hl hh (fun j hj => by unfold litF; rw [List.getD_eq_getElem?_getD, List.getElem?_eq_none hj]; rfl) fun j hj => by
    rw [List.getElem?_toArray, List.getElem?_map, List.getElem?_eq_getElem hj]
    simp [litF, hj]

theorem Sq.fcongr {k : IntKind} {w : World} {lo hi n n' : Nat} {A : Option Addr} {f g : Nat → Nat} (h : Sq k w lo hi A n f) (hn : n = n') (hz : ∀ j, n ≤ j → g j = 0) (e : ∀ j, j < n → f j = g j) : Sq k w lo hi A n' g := by
  subst hn
  refine ⟨hz, fun hn => ?_⟩
  obtain ⟨b, off, e1, h1, h2, h3⟩ := h.2 hn
  exact ⟨b, off, e1, h1, h2, fun j hj => by rw [h3 j hj, e j hj]⟩

theorem litF_out {l : List Nat} {j : Nat} (h : l.length ≤ j) : litF l j = 0 := by unfold litF; rw [List.getD_eq_getElem?_getD, List.getElem?_eq_none h]; rfl

/-- a list that reads as F reads as the written-out list, if the two agree -/
theorem sq_lit {k : IntKind} {w : World} {lo hi n : Nat} {A : Option Addr} {F : Nat → Nat} (l : List Nat) (h : Sq k w lo hi A n F) (hb : sameB n F l.length (litF l) = true) : Sq k w lo hi A l.length (litF l) := by
  obtain ⟨h1, h2⟩ := sameB_true.1 hb
  exact h.fcongr h1 (fun j hj => litF_out (by omega)) h2

end Go.Proofs.Ytbajapjaejpcjaa
