/- What Forward, Inverse and Mul leave, told without cases; the box of a case. -/
import Derived.Test.YtbajapjaejpcjaaAwk6
namespace Go.Proofs.Ytbajapjaejpcjaa
open Go.RowKit
set_option linter.unusedVariables false

/-- a list and an error of which both are known -/
def RetU (w : World) (L : Nat) (E : Int) (G : Nat → Nat) (e : Ending) (w' : World) : Prop :=
  Below w.heap.size w w' ∧ ∃ A c, e = .returned (.tuple #[.slice A L c, .int .i64 E]) ∧ Sq .u32 w' w.heap.size w'.heap.size A L G
theorem ret_uni (C : Prop) (n : Nat) (F : Nat → Nat) (hF : ∀ j, n ≤ j → F j = 0) : ∃ (L : Nat) (E : Int) (G : Nat → Nat), L ≤ n ∧ (∀ w e w', RetL w C n F e w' → RetU w L E G e w') ∧ (∀ w e w', RetRL w C n F e w' → RetU w L E G e w') := by
  by_cases hC : C
  · refine ⟨n, 0, F, Nat.le_refl _, fun w e w' h => ?_, fun w e w' h => ?_⟩
    · rcases h with ⟨hb, ⟨h, _⟩ | ⟨_, b, rfl, hbg, hr⟩⟩
      · exact absurd hC h
      · exact ⟨hb, _, _, rfl, Sq.of_row hr (Nat.le_refl _) hbg hr.lt hF fun _ _ => rfl⟩
    · rcases h with ⟨hb, ⟨h, _⟩ | ⟨_, A, c, rfl, _, hr⟩⟩
      · exact absurd hC h
      · exact ⟨hb, _, _, rfl, hr⟩
  · refine ⟨0, 2, fun _ => 0, Nat.zero_le _, fun w e w' h => ?_, fun w e w' h => ?_⟩
    · rcases h with ⟨hb, ⟨_, rfl⟩ | ⟨h, _⟩⟩
      · exact ⟨hb, _, _, rfl, Sq.nil _ _ _ _ _⟩
      · exact absurd h hC
    · rcases h with ⟨hb, ⟨_, rfl⟩ | ⟨h, _⟩⟩
      · exact ⟨hb, _, _, rfl, Sq.nil _ _ _ _ _⟩
      · exact absurd h hC
/-- a case in its box -/
structure Cx (W : World) (b : Nat) (n : Int) (q : Nat) (u v : Value) : Prop where
  c0 : W.cell? ⟨b, 0, none⟩ = some (.int .i64 n)
  c1 : W.cell? ⟨b, 1, none⟩ = some (.int .u32 q)
  c2 : W.cell? ⟨b, 2, none⟩ = some u
  c3 : W.cell? ⟨b, 3, none⟩ = some v
  lt : b < W.heap.size
theorem Cx.below {W W' : World} {b q B : Nat} {n : Int} {u v : Value} (h : Cx W b n q u v) (hb : Below B W W') (hB : b < B) : Cx W' b n q u v :=
  ⟨(hb.cell (p := ⟨b, 0, none⟩) hB).trans h.c0, (hb.cell (p := ⟨b, 1, none⟩) hB).trans h.c1, (hb.cell (p := ⟨b, 2, none⟩) hB).trans h.c2, (hb.cell (p := ⟨b, 3, none⟩) hB).trans h.c3, Nat.lt_of_lt_of_le h.lt hb.size⟩
theorem Cx.new (w : World) (n : Int) (q : Nat) (u v : Value) (t : TypeId) : Cx (w.alloc (.cells #[.int .i64 n, .int .u32 q, u, v] t)) w.heap.size n q u v :=
  ⟨by rw [World.cell?_alloc_new]; rfl, by rw [World.cell?_alloc_new]; rfl, by rw [World.cell?_alloc_new]; rfl, by rw [World.cell?_alloc_new]; rfl, by rw [World.size_alloc]; omega⟩
theorem sq_lent {W : World} {b n : Nat} {f : Nat → Nat} (hr : W.rowIs b 22 (n + 1) (ku .u32 (lentF n f))) (hz : ∀ j, n ≤ j → f j = 0) : Sq .u32 W 0 W.heap.size (some ⟨b, 0, none⟩) n f :=
  Sq.of_row hr (by omega) (Nat.zero_le _) hr.lt hz fun j hj => lentF_lt hj
theorem Sq.grown {k : IntKind} {w w' : World} {lo hi n g : Nat} {A : Option Addr} {f : Nat → Nat} (h : Sq k w lo hi A n f) (hg : w.grownBy w' (some g)) (hne : g < lo ∨ hi ≤ g) (hhi : hi ≤ w.heap.size) : Sq k w' lo hi A n f :=
  ⟨h.1, fun hn => by
    obtain ⟨b, off, e, h1, h2, h3⟩ := h.2 hn
    exact ⟨b, off, e, h1, h2, fun j hj => (World.cell?_of_block (hg.block b (by omega) (by simp; omega))).trans (h3 j hj)⟩⟩
theorem Good.share {n q ψ s : Nat} (h : Good n q ψ s) (hnq : n < q) : Nat.gcd q n = 1 ∧ invN n q = s := by
  have hq2 := h.rt.pr.1
  have hs : s * n % q = 1 % q := by
    have := h.sh
    rw [show ((s : Int) * (n : Int)) = ((s * n : Nat) : Int) by simp, show (1 : Int) = ((1 : Nat) : Int) by rfl] at this
    exact Cg.nat.1 this
  refine ⟨?_, invN_eq h.sq hs⟩
  have hg := Nat.gcd_dvd_left q n
  rcases h.rt.pr.2 _ hg with h1 | h1
  · exact h1
  · exfalso
    have h2 := Nat.gcd_dvd_right q n
    rw [h1] at h2
    exact absurd (Nat.le_of_dvd (by have := h.nb; omega) h2) (by omega)
theorem newOk_nq {n q : Nat} (h : NewOk (n : Int) q) : n < q := by
  obtain ⟨hd, _, hp, hm⟩ := h
  unfold dim6 at hd
  rw [Int.toNat_natCast] at hm
  have := hp.1
  rcases Nat.lt_or_ge q (2 * n) with h1 | h1
  · rw [Nat.mod_eq_of_lt h1] at hm
    omega
  · omega
end Go.Proofs.Ytbajapjaejpcjaa
