/- What the laws' walks share: arguments as functions, large at two lists, lent lists. -/
import Derived.Test.YtoifjkandmnakaaAwake
namespace Go.Proofs.Ytoifjkandmnakaa
open Go.RowKit

/-- a slice of uint32 that came in, told by a function -/
theorem sq_arg {w : World} {a : Option Addr} {len cap : Nat} {zs : List Int}
    (h : (a = none ∧ len = 0 ∧ cap = 0 ∧ zs = []) ∨ ∃ x, a = some x ∧ len ≤ cap ∧ cap ≤ maxLen ∧ zs.length = cap ∧ (∀ i, i < zs.length → w.cell? (x.add i) = some (.int .u32 (zs.getD i 0))) ∧ ∀ n ∈ zs, (Lit.int .u32 n).wf = true) :
    ∃ f, Sq .u32 w 0 w.heap.size a len f ∧ (∀ j, f j ≤ 4294967295) ∧ len ≤ 9223372036854775807 := by
  rcases h with ⟨rfl, rfl, rfl, rfl⟩ | ⟨x, rfl, hl, hm, hz, hc, hw⟩
  · exact ⟨fun _ => 0, Sq.nil _ _ _ _ _, fun _ => Nat.zero_le _, by omega⟩
  · have hbd : ∀ j, j < len → 0 ≤ zs.getD j 0 ∧ zs.getD j 0 ≤ 4294967295 := by
      intro j hj
      have hjl : j < zs.length := by omega
      have := hw (zs.getD j 0) (by rw [List.getD_eq_getElem?_getD, List.getElem?_eq_getElem hjl]; exact List.getElem_mem hjl)
      simp [Lit.wf, IntKind.min, IntKind.max, IntKind.signed, IntKind.bits] at this
      simpa using this
    refine ⟨fun j => if j < len then (zs.getD j 0).toNat else 0, ⟨fun j hj => if_neg (by omega), fun hn => ?_⟩, fun j => ?_, by unfold maxLen at hm; omega⟩
    · obtain ⟨b, off, spot⟩ := x
      have h0 := hc 0 (by omega)
      have hspot : spot = none := by simpa [Addr.add] using World.cell?_spot h0
      subst hspot
      refine ⟨b, off, rfl, Nat.zero_le _, by simpa [Addr.add] using World.block_lt_of_cell? w _ h0, fun j hj => ?_⟩
      have e1 : (⟨b, off, none⟩ : Addr).add j = ⟨b, off + j, none⟩ := by
        unfold Addr.add
        split
        · simp
        · rfl
      have h1 := hc j (by omega)
      rw [e1] at h1
      rw [h1]
      show some (Value.int .u32 (zs.getD j 0)) = some (.int .u32 (((if j < len then (zs.getD j 0).toNat else 0 : Nat)) : Int))
      rw [if_pos hj, Int.toNat_of_nonneg (hbd j hj).1]
    · show (if j < len then (zs.getD j 0).toNat else 0) ≤ _
      split
      · have := hbd j (by assumption); omega
      · omega

theorem u32_arg {a : Int} (h : (Lit.int .u32 a).wf = true) : ∃ m : Nat, a = (m : Int) ∧ m ≤ 4294967295 := by
  simp [Lit.wf, IntKind.min, IntKind.max, IntKind.signed, IntKind.bits] at h
  exact ⟨a.toNat, by omega, by omega⟩

theorem Sq.grown {k : IntKind} {w w' : World} {lo hi n g : Nat} {A : Option Addr} {f : Nat → Nat} (h : Sq k w lo hi A n f) (hg : w.grownBy w' (some g)) (hne : g < lo ∨ hi ≤ g) (hhi : hi ≤ w.heap.size) : Sq k w' lo hi A n f :=
  ⟨h.1, fun hn => by
    obtain ⟨b, off, e, h1, h2, h3⟩ := h.2 hn
    exact ⟨b, off, e, h1, h2, fun j hj => (World.cell?_of_block (hg.block b (by omega) (by simp; omega))).trans (h3 j hj)⟩⟩

theorem rowIs_grown {w w' : World} {b g t n : Nat} {F : Nat → Value} (h : w.rowIs b t n F) (hg : w.grownBy w' (some g)) (hne : b ≠ g) : w'.rowIs b t n F := h.of_block (hg.block b h.lt (by simp; omega))

theorem large2_call (n nb ca cb : Nat) (A B : Option Addr) (w : World) (hn : n ≤ 9223372036854775807) (hnb : nb ≤ 9223372036854775807) (W : World) (hW : W = w.alloc (.cells #[.slice A n ca, .slice B nb cb] 23)) :
    Calls Try.prog 15 #[.slice (some ⟨w.heap.size, 0, none⟩) 2 2] W (fun e w' => e = .returned (.bool (anyLong 2 (two n nb))) ∧ Below w.heap.size w w') := by
  subst hW
  have hbel := (Below.refl w.heap.size w).alloc (Nat.le_refl _) (.cells #[.slice A n ca, .slice B nb cb] 23)
  exact (large_any w.heap.size 2 (two A B) (two n nb) (two ca cb) _ (Cs.two_ (by rw [World.cell?_alloc_new]; rfl) (by rw [World.cell?_alloc_new]; rfl)) (fun i hi => by match i, hi with | 0, _ => exact hn | 1, _ => exact hnb) (by omega)).mono fun e w' h => ⟨h.1, hbel.trans (h.2.mono (by simp))⟩

theorem anyLong2_true {n nb : Nat} (h : 300 < n ∨ 300 < nb) : anyLong 2 (two n nb) = true := by
  rcases h with h | h
  · exact anyLong_true (k := 0) (by omega) h
  · exact anyLong_true (k := 1) (by omega) h
theorem anyLong2_false {n nb : Nat} (h : ¬(300 < n ∨ 300 < nb)) : anyLong 2 (two n nb) = false :=
  anyLong_false fun k hk => by
    match k, hk with
    | 0, _ => show n ≤ 300; omega
    | 1, _ => show nb ≤ 300; omega

/-- a lent list reads as the list -/
theorem sq_lent {w : World} {b n : Nat} {f : Nat → Nat} (h : w.rowIs b 22 (n + 1) (ku .u32 (lentF n f))) (hz : ∀ j, n ≤ j → f j = 0) : Sq .u32 w b (b + 1) (some ⟨b, 0, none⟩) n f :=
  Sq.of_row h (by omega) (Nat.le_refl _) (Nat.lt_succ_self _) hz fun j hj => lentF_lt hj
end Go.Proofs.Ytoifjkandmnakaa
