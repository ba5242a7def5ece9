/- Words for the small functions of modular: what they answer, and what fits says. -/
import Derived.Test.YthepdpfiahcfmaaFits
namespace Go.Proofs.Ythepdpfiahcfmaa
open Go.RowKit
set_option linter.unusedVariables false

/-- a call that returns a number and an error -/
def RetNE (w : World) (p : Nat × Nat) (e : Ending) (w' : World) : Prop := e = .returned (.tuple #[.int .u32 (p.1 : Int), .int .i64 (p.2 : Int)]) ∧ Below w.heap.size w w'
def RetIE (w : World) (p : Int × Nat) (e : Ending) (w' : World) : Prop := e = .returned (.tuple #[.int .i64 p.1, .int .i64 (p.2 : Int)]) ∧ Below w.heap.size w w'
theorem RetNE.mk {w w' : World} {p : Nat × Nat} {x E : Int} (h1 : x = (p.1 : Int)) (h2 : E = (p.2 : Int)) (hb : Below w.heap.size w w') : RetNE w p (.returned (.tuple #[.int .u32 x, .int .i64 E])) w' := ⟨by rw [h1, h2], hb⟩
theorem RetIE.mk {w w' : World} {p : Int × Nat} {x E : Int} (h1 : x = p.1) (h2 : E = (p.2 : Int)) (hb : Below w.heap.size w w') : RetIE w p (.returned (.tuple #[.int .i64 x, .int .i64 E])) w' := ⟨by rw [h1, h2], hb⟩

def Mok (n : Nat) : Prop := 2 ≤ n ∧ n ≤ 2147483647
def Res2 (a b n : Nat) : Prop := Mok n ∧ a < n ∧ b < n
instance (n : Nat) : Decidable (Mok n) := by unfold Mok; infer_instance
instance (a b n : Nat) : Decidable (Res2 a b n) := by unfold Res2; infer_instance
def addP (a b n : Nat) : Nat × Nat := if Res2 a b n then ((a + b) % n, 0) else (0, 2)
def subP (a b n : Nat) : Nat × Nat := if Res2 a b n then ((a + n - b) % n, 0) else (0, 2)
def mulP (a b n : Nat) : Nat × Nat := if Res2 a b n then (a * b % n, 0) else (0, 2)
def powP (a k n : Nat) : Nat × Nat := if Mok n ∧ a < n then (a ^ k % n, 0) else (0, 2)
def ofP (v : Int) (n : Nat) : Nat × Nat := if Mok n then ((v % (n : Int)).toNat, 0) else (0, 2)
def balP (a n : Nat) : Int × Nat := if Mok n ∧ a < n then ((if n < 2 * a then (a : Int) - n else a), 0) else (0, 2)

def twoF (x y : Nat) : Nat → Nat := fun j => if j = 0 then x else if j = 1 then y else 0
theorem sq_two {w : World} {e lo hi x y : Nat} (hl : lo ≤ w.heap.size) (hh : w.heap.size < hi) : Sq .u32 (w.alloc (.cells #[.int .u32 (x : Int), .int .u32 (y : Int)] e)) lo hi (some ⟨w.heap.size, 0, none⟩) 2 (twoF x y) :=
  sq_new (twoF x y) hl hh (fun j hj => by unfold twoF; rw [if_neg (by omega), if_neg (by omega)]) fun j hj => by
    match j, hj with
    | 0, _ => rfl
    | 1, _ => rfl
theorem fits_two {a b n : Nat} : fitsB n 2 (twoF a b) = true ↔ Res2 a b n := by
  unfold fitsB twoF Res2 Mok
  simp [List.range_succ]
  omega
theorem fits_two_no {a b n : Nat} (h : ¬ Res2 a b n) : fitsB n 2 (twoF a b) = false := by
  cases hb : fitsB n 2 (twoF a b)
  · rfl
  · exact absurd (fits_two.1 hb) h
theorem fits_one' {a n : Nat} : fitsB n 1 (oneF a) = true ↔ Mok n ∧ a < n := by
  rw [fits_one]
  unfold Mok
  omega
theorem fits_one_no {a n : Nat} (h : ¬ (Mok n ∧ a < n)) : fitsB n 1 (oneF a) = false := by
  cases hb : fitsB n 1 (oneF a)
  · rfl
  · exact absurd (fits_one'.1 hb) h
theorem fits_nil {n : Nat} : fitsB n 0 (fun _ => 0) = true ↔ Mok n := by
  unfold fitsB Mok
  simp
theorem fits_nil_no {n : Nat} (h : ¬ Mok n) : fitsB n 0 (fun _ => 0) = false := by
  cases hb : fitsB n 0 (fun _ => 0)
  · rfl
  · exact absurd (fits_nil.1 hb) h
/-- what fits says of two numbers laid down -/
theorem fits2_at (a b n : Nat) (w : World) : Calls Try.prog 34 #[.int .u32 n, .slice (some ⟨w.heap.size, 0, none⟩) 2 2] (w.alloc (.cells #[.int .u32 (a : Int), .int .u32 (b : Int)] 22)) (RetP (w.alloc (.cells #[.int .u32 (a : Int), .int .u32 (b : Int)] 22)) (.bool (fitsB n 2 (twoF a b)))) :=
  fits_any n 2 2 _ (twoF a b) _ 0 _ (sq_two (Nat.zero_le _) (Nat.lt_succ_self _)) (by omega)
theorem fits1_at (a n : Nat) (w : World) : Calls Try.prog 34 #[.int .u32 n, .slice (some ⟨w.heap.size, 0, none⟩) 1 1] (w.alloc (.cells #[.int .u32 (a : Int)] 22)) (RetP (w.alloc (.cells #[.int .u32 (a : Int)] 22)) (.bool (fitsB n 1 (oneF a)))) :=
  fits_any n 1 1 _ (oneF a) _ 0 _ (sq_one rfl (Nat.zero_le _) (Nat.lt_succ_self _)) (by omega)
theorem fits0_at (n : Nat) (w : World) : Calls Try.prog 34 #[.int .u32 n, .slice none 0 0] w (RetP w (.bool (fitsB n 0 (fun _ => 0)))) :=
  fits_any n 0 0 none (fun _ => 0) w 0 0 (Sq.nil _ _ _ _ _) (by omega)
theorem bel2 (w : World) (o : Obj) : Below w.heap.size w (w.alloc o) := (Below.refl _ w).alloc (Nat.le_refl _) o

end Go.Proofs.Ythepdpfiahcfmaa
