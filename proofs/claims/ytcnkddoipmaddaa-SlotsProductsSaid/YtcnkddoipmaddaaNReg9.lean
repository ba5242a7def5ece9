/- The slots while slots.New makes them: the words of its contract. -/
/- The region of slots.New that appends a power of the prime. -/
import Derived.Test.YtcnkddoipmaddaaDec8
import Derived.Test.YtcnkddoipmaddaaRRoot7
import Derived.BigRegion
import Derived.Deep.RegionLaw
import Derived.Deep.AppendLies
import Derived.Deep.RegionHeld3
namespace Go.Proofs.Ytcnkddoipmaddaa
open Go.RowKit
set_option linter.unusedVariables false

/-- when there are slots -/
def NewOk8 (n : Int) (p : Nat) (r : Int) : Prop := 4 ≤ n ∧ FrOk n p r
theorem p17 {p : Nat} (hp : Mr.Pr p) (h3 : 3 ≤ p) (h8 : p % 8 = 1) : 17 ≤ p := by
  have h9 : p ≠ 9 := fun h => by
    subst h
    rcases hp.2 3 ⟨3, rfl⟩ with h | h <;> omega
  omega
theorem g8_of {n p r x : Nat} (h : NewOk8 (n : Int) p (r : Int)) (hx : FrIs n p r x) : G8 n p r x := by
  obtain ⟨h4, ⟨hdim, _⟩, ⟨hp3, hp6, hpr, hr1, hpR⟩, hmod⟩ := h
  rw [Int.toNat_natCast] at hpR hmod
  obtain ⟨ψ, hle, hrt, hψ, hx1, hx2, hx3⟩ := hx
  have hd8 : dim8 n := by unfold dimF at hdim; unfold dim8; omega
  have hp8 : p % 8 = 1 := by
    obtain ⟨k, hk⟩ : 8 ∣ 2 * n := by unfold dim8 at hd8; omega
    rw [← Nat.mod_mod_of_dvd p ⟨k, hk⟩, hmod]
  have h17 := p17 hpr hp3 hp8
  have hR7 : r ≤ 7 := by
    rcases Nat.lt_or_ge 7 r with h | h
    · exfalso
      have h1 : p ^ 8 ≤ p ^ r := Nat.pow_le_pow_right (by omega) h
      have h2 : 17 ^ 8 ≤ p ^ 8 := Nat.pow_le_pow_left h17 8
      omega
    · exact h
  have hnp : n < p := by
    have := Nat.div_add_mod p (2 * n)
    rcases Nat.eq_zero_or_pos (p / (2 * n)) with h0 | h0
    · rw [h0, Nat.mul_zero] at this; omega
    · have := Nat.mul_le_mul_left (2 * n) h0
      omega
  refine ⟨hd8, hp3, hp6, pr_odd hpr hp3, by omega, hR7, hpR, hx1, ⟨by rw [hx2]; exact hrt, by omega, ?_⟩, hnp⟩
  rw [pv_cyc (by omega)] at hx3
  have := hx3.sub (Cg.refl (p ^ r) 1)
  have e : (1 : Int) + (x : Int) ^ n - 1 = (x : Int) ^ n := by omega
  rw [e] at this
  simpa using this
def RetN8 (w : World) (n : Int) (p : Nat) (r : Int) (e : Ending) (w' : World) : Prop :=
  Below w.heap.size w w' ∧ ((¬ NewOk8 n p r ∧ e = .returned (.tuple #[.pointer none, .int .i64 2])) ∨
    (NewOk8 n p r ∧ ∃ b x : Nat, e = .returned (.tuple #[.pointer (some ⟨b, 0, none⟩), .int .i64 0]) ∧ FrIs n.toNat p r.toNat x ∧ Sl w' w.heap.size b n.toNat p r.toNat x))

/-- the cells of the slots -/
def slF (n p : Nat) (vP vZ : Value) (ex : Nat → Nat) (k : Nat) : Value := if k = 0 then .int .i64 (n : Int) else if k = 1 then .int .u32 (p : Int) else if k = 2 then vP else if k = 3 then vZ else .int .i64 ((ex (k - 4) : Nat) : Int)
theorem slF_start (w : World) (n p : Nat) (vP vZ : Value) (t : TypeId) : (w.alloc (.cells #[.int .i64 (n : Int), .int .u32 (p : Int), vP, vZ, Value.int IntKind.i64 0, Value.int IntKind.i64 0, Value.int IntKind.i64 0, Value.int IntKind.i64 0, Value.int IntKind.i64 0, Value.int IntKind.i64 0, Value.int IntKind.i64 0, Value.int IntKind.i64 0, Value.int IntKind.i64 0, Value.int IntKind.i64 0, Value.int IntKind.i64 0, Value.int IntKind.i64 0, Value.int IntKind.i64 0, Value.int IntKind.i64 0, Value.int IntKind.i64 0, Value.int IntKind.i64 0, Value.int IntKind.i64 0, Value.int IntKind.i64 0, Value.int IntKind.i64 0, Value.int IntKind.i64 0, Value.int IntKind.i64 0, Value.int IntKind.i64 0, Value.int IntKind.i64 0, Value.int IntKind.i64 0, Value.int IntKind.i64 0, Value.int IntKind.i64 0, Value.int IntKind.i64 0, Value.int IntKind.i64 0, Value.int IntKind.i64 0, Value.int IntKind.i64 0, Value.int IntKind.i64 0, Value.int IntKind.i64 0] t)).rowIs w.heap.size t 36 (slF n p vP vZ fun _ => 0) :=
  World.rowIs_alloc w #[.int .i64 (n : Int), .int .u32 (p : Int), vP, vZ, Value.int IntKind.i64 0, Value.int IntKind.i64 0, Value.int IntKind.i64 0, Value.int IntKind.i64 0, Value.int IntKind.i64 0, Value.int IntKind.i64 0, Value.int IntKind.i64 0, Value.int IntKind.i64 0, Value.int IntKind.i64 0, Value.int IntKind.i64 0, Value.int IntKind.i64 0, Value.int IntKind.i64 0, Value.int IntKind.i64 0, Value.int IntKind.i64 0, Value.int IntKind.i64 0, Value.int IntKind.i64 0, Value.int IntKind.i64 0, Value.int IntKind.i64 0, Value.int IntKind.i64 0, Value.int IntKind.i64 0, Value.int IntKind.i64 0, Value.int IntKind.i64 0, Value.int IntKind.i64 0, Value.int IntKind.i64 0, Value.int IntKind.i64 0, Value.int IntKind.i64 0, Value.int IntKind.i64 0, Value.int IntKind.i64 0, Value.int IntKind.i64 0, Value.int IntKind.i64 0, Value.int IntKind.i64 0, Value.int IntKind.i64 0] t (slF n p vP vZ fun _ => 0) fun i hi => by
    have hi' : i < 36 := hi
    match i, hi' with
    | 0, _ => rfl
    | 1, _ => rfl
    | 2, _ => rfl
    | 3, _ => rfl
    | 4, _ => rfl
    | 5, _ => rfl
    | 6, _ => rfl
    | 7, _ => rfl
    | 8, _ => rfl
    | 9, _ => rfl
    | 10, _ => rfl
    | 11, _ => rfl
    | 12, _ => rfl
    | 13, _ => rfl
    | 14, _ => rfl
    | 15, _ => rfl
    | 16, _ => rfl
    | 17, _ => rfl
    | 18, _ => rfl
    | 19, _ => rfl
    | 20, _ => rfl
    | 21, _ => rfl
    | 22, _ => rfl
    | 23, _ => rfl
    | 24, _ => rfl
    | 25, _ => rfl
    | 26, _ => rfl
    | 27, _ => rfl
    | 28, _ => rfl
    | 29, _ => rfl
    | 30, _ => rfl
    | 31, _ => rfl
    | 32, _ => rfl
    | 33, _ => rfl
    | 34, _ => rfl
    | 35, _ => rfl
    | k + 36, h => exact absurd h (by omega)
theorem slF_P {n p : Nat} {vP vZ v : Value} {ex : Nat → Nat} {w : World} {b t : Nat} (h : w.rowIs b t 36 (slF n p vP vZ ex)) : (w.setCell ⟨b, 2, none⟩ v).rowIs b t 36 (slF n p v vZ ex) := by
  refine (h.set 2 _).congr fun k hk => ?_
  unfold slF
  by_cases e : k = 2
  · subst e; rfl
  · rw [if_neg e]
    split
    · rfl
    · split
      · rfl
      · rfl
theorem slF_Z {n p : Nat} {vP vZ v : Value} {ex : Nat → Nat} {w : World} {b t : Nat} (h : w.rowIs b t 36 (slF n p vP vZ ex)) : (w.setCell ⟨b, 3, none⟩ v).rowIs b t 36 (slF n p vP v ex) := by
  refine (h.set 3 _).congr fun k hk => ?_
  unfold slF
  by_cases e : k = 3
  · subst e; rfl
  · rw [if_neg e]
    split
    · rfl
    · split
      · rfl
      · split
        · rfl
        · rfl
theorem slF_ex {n p i x : Nat} {vP vZ : Value} {ex : Nat → Nat} {w : World} {b t : Nat} (h : w.rowIs b t 36 (slF n p vP vZ ex)) : (w.setCell ⟨b, 4 + i, none⟩ (.int .i64 (x : Int))).rowIs b t 36 (slF n p vP vZ fun k => if k = i then x else ex k) := by
  refine (h.set (4 + i) _).congr fun k hk => ?_
  unfold slF
  by_cases e : k = 4 + i
  · subst e
    rw [if_pos rfl, if_neg (by omega), if_neg (by omega), if_neg (by omega), if_neg (by omega), Nat.add_sub_cancel_left]
    dsimp only
    rw [if_pos rfl]
  · rw [if_neg e]
    split
    · rfl
    · split
      · rfl
      · split
        · rfl
        · split
          · rfl
          · dsimp only
            rw [if_neg (by omega)]
theorem e64u : ElemOf Try.prog 48 61 .u64 8 := ⟨Try.underlying48, by kernel_rfl⟩
/-- the first m values of a function, and nought behind them -/
def trN (m : Nat) (f : Nat → Nat) : Nat → Nat := fun j => if j < m then f j else 0
theorem trN_out {m j : Nat} {f : Nat → Nat} (h : m ≤ j) : trN m f j = 0 := if_neg (by omega)
theorem trN_lt {m j : Nat} {f : Nat → Nat} (h : j < m) : trN (m + 1) f j = trN m f j := by unfold trN; rw [if_pos h, if_pos (by omega)]
theorem trN_add {m : Nat} {f : Nat → Nat} (j : Nat) : trN (m + 1) f (m + j) = oneF (f m) j := by
  unfold trN oneF
  by_cases h : j = 0
  · subst h; rw [if_pos (by omega), if_pos rfl, Nat.add_zero]
  · rw [if_neg (by omega), if_neg h]

theorem own_new1 {w : World} {B : Nat} {f : Nat → Nat} (hB : B ≤ w.heap.size) (hf : f 0 = 1) : Own .u64 (w.alloc (Obj.cells #[Value.int IntKind.u64 1] 61)) B 61 (some ⟨w.heap.size, 0, none⟩) 1 1 (trN 1 f) :=
  Own.of_row (f := trN 1 f) (World.rowIs_alloc w #[Value.int IntKind.u64 1] 61 (ku .u64 (trN 1 f)) fun i hi => by
    have hi' : i < 1 := hi
    obtain rfl : i = 0 := by omega
    simp [ku, trN, hf]) hB (Nat.le_refl _) (by unfold maxLen; omega) (fun j hj => trN_out hj) fun _ _ => rfl
/-- the slots while they are made: B the first block -/
structure NI (W : World) (B n p : Nat) (gP cP i gZ cZ j : Nat) (fP fZ : Nat → Nat) (ex : Nat → Nat) : Prop where
  row : W.rowIs (B + 1 + 1) 53 36 (slF n p (.slice (some ⟨gP, 0, none⟩) i cP) (.slice (some ⟨gZ, 0, none⟩) j cZ) ex)
  oP : Own .u64 W B 61 (some ⟨gP, 0, none⟩) i cP (trN i fP)
  oZ : Own .u64 W B 61 (some ⟨gZ, 0, none⟩) j cZ (trN j fZ)
  n1 : gP ≠ gZ
  n2 : gP ≠ B + 1 + 1
  n3 : gZ ≠ B + 1 + 1
  lP : B ≤ gP
  lZ : B ≤ gZ
/-- what an append leaves of another row -/
theorem row_grown {W W5 : World} {b t m g : Nat} {F : Nat → Value} (h : W.rowIs b t m F) (o : Obj) (hg : ((W.alloc o).drew).grownBy W5 (some g)) (hne : b ≠ g) : W5.rowIs b t m F := by
  obtain ⟨cs, hh, hs, hcs⟩ := h
  have hlt : b < W.heap.size := (Array.getElem?_eq_some_iff.1 hh).1
  refine ⟨cs, ?_, hs, hcs⟩
  rw [hg.block b (by show b < (W.alloc o).heap.size; rw [World.size_alloc]; omega) (fun e => hne (by injection e))]
  exact (Below.heap_alloc W o b hlt).trans hh
theorem own_app {W5 : World} {B g cap i y : Nat} {f : Nat → Nat} (h : W5.ownsRow B 61 1 (.slice (some ⟨g, 0, none⟩) (i + 1) cap) (i + 1) ((List.range i).map (ku .u64 (trN i f)) ++ [.int .u64 (y : Int)])) (hy : y = f i) : Own .u64 W5 B 61 (some ⟨g, 0, none⟩) (i + 1) cap (trN (i + 1) f) :=
  ⟨fun j hj => trN_out hj, by
    have h5 := h
    rw [show [Value.int .u64 (y : Int)] = (List.range 1).map (ku .u64 (oneF (f i))) by rw [hy]; rfl, app_list .u64 _ _ (trN (i + 1) f) i 1 (fun j hj => trN_lt hj) (fun j _ => trN_add j)] at h5
    exact h5⟩

theorem own_set {W : World} {B e n c g b i : Nat} {f : Nat → Nat} {k : IntKind} {v : Value} (h : Own k W B e (some ⟨g, 0, none⟩) n c f) (hne : g ≠ b) : Own k (W.setCell ⟨b, i, none⟩ v) B e (some ⟨g, 0, none⟩) n c f :=
  h.of_block fun g' _ _ hA => by
    injection hA with hA
    injection hA with hA
    subst hA
    exact Below.heap_setCell _ _ _ _ hne
theorem below_app {W W5 : World} {B g : Nat} {o : Obj} (hg : ((W.alloc o).drew).grownBy W5 (some g)) (hB : B ≤ W.heap.size) (hgB : B ≤ g) : Below B W W5 :=
  (below_drewN ((Below.refl B W).alloc hB o) 1).grown hg (by show B ≤ (W.alloc o).heap.size; rw [World.size_alloc]; omega) (fun k hk => by injection hk with hk; omega)
theorem ni_P {W W5 : World} {B n p gP cP i gZ cZ j g cap : Nat} {fP fZ ex : Nat → Nat} {o : Obj} (h : NI W B n p gP cP i gZ cZ j fP fZ ex) (hg : ((W.alloc o).drew).grownBy W5 (some gP)) (hat : some gP = some g ∨ g = W.heap.size + 1)
    (hO : Own .u64 W5 B 61 (some ⟨g, 0, none⟩) (i + 1) cap (trN (i + 1) fP)) : NI (W5.setCell ⟨B + 1 + 1, 2, none⟩ (.slice (some ⟨g, 0, none⟩) (i + 1) cap)) B n p g cap (i + 1) gZ cZ j fP fZ ex ∧ Below B W (W5.setCell ⟨B + 1 + 1, 2, none⟩ (.slice (some ⟨g, 0, none⟩) (i + 1) cap)) := by
  have hltB := h.row.lt
  have hltZ := own_lt h.oZ
  have hat' : g = gP ∨ g = W.heap.size + 1 := by
    rcases hat with h1 | h1
    · injection h1 with h1; exact .inl h1.symm
    · exact .inr h1
  have n1 := h.n1
  have n2 := h.n2
  have lP := h.lP
  have hz : Own .u64 W5 B 61 (some ⟨gZ, 0, none⟩) j cZ (trN j fZ) := (h.oZ.alloc o).grown (w := (W.alloc o).drew) hg (fun g' hA e => by
    injection hA with hA
    injection hA with hA
    injection e with e
    omega)
  exact ⟨⟨slF_P (row_grown h.row o hg (fun e => n2 e.symm)), own_set hO (by omega), own_set hz h.n3, by omega, by omega, h.n3, by omega, h.lZ⟩, (below_app hg (by omega) lP).setCell (p := ⟨B + 1 + 1, 2, none⟩) (show B ≤ B + 1 + 1 by omega) _⟩
theorem ni_Z {W W5 : World} {B n p gP cP i gZ cZ j g cap : Nat} {fP fZ ex : Nat → Nat} {o : Obj} (h : NI W B n p gP cP i gZ cZ j fP fZ ex) (hg : ((W.alloc o).drew).grownBy W5 (some gZ)) (hat : some gZ = some g ∨ g = W.heap.size + 1)
    (hO : Own .u64 W5 B 61 (some ⟨g, 0, none⟩) (j + 1) cap (trN (j + 1) fZ)) : NI (W5.setCell ⟨B + 1 + 1, 3, none⟩ (.slice (some ⟨g, 0, none⟩) (j + 1) cap)) B n p gP cP i g cap (j + 1) fP fZ ex ∧ Below B W (W5.setCell ⟨B + 1 + 1, 3, none⟩ (.slice (some ⟨g, 0, none⟩) (j + 1) cap)) := by
  have hltB := h.row.lt
  have hltP := own_lt h.oP
  have hat' : g = gZ ∨ g = W.heap.size + 1 := by
    rcases hat with h1 | h1
    · injection h1 with h1; exact .inl h1.symm
    · exact .inr h1
  have n1 := h.n1
  have n3 := h.n3
  have lZ := h.lZ
  have hz : Own .u64 W5 B 61 (some ⟨gP, 0, none⟩) i cP (trN i fP) := (h.oP.alloc o).grown (w := (W.alloc o).drew) hg (fun g' hA e => by
    injection hA with hA
    injection hA with hA
    injection e with e
    omega)
  exact ⟨⟨slF_Z (row_grown h.row o hg (fun e => n3 e.symm)), own_set hz h.n2, own_set hO (by omega), by omega, h.n2, by omega, h.lP, by omega⟩, (below_app hg (by omega) lZ).setCell (p := ⟨B + 1 + 1, 3, none⟩) (show B ≤ B + 1 + 1 by omega) _⟩

theorem slF_e {n p j : Nat} {vP vZ : Value} {ex : Nat → Nat} : slF n p vP vZ ex (4 + j) = .int .i64 ((ex j : Nat) : Int) := by
  unfold slF
  rw [if_neg (by omega), if_neg (by omega), if_neg (by omega), if_neg (by omega), Nat.add_sub_cancel_left]
/-- the exponents laid down so far, in both rows -/
def exP (n h j t : Nat) : Nat := if t < j ∨ (h ≤ t ∧ t < h + j) then exN n t else 0
theorem ni_ex {W : World} {B n p gP cP i gZ cZ j h s : Nat} {fP fZ : Nat → Nat} (hN : NI W B n p gP cP i gZ cZ j fP fZ (exP n h s)) (hs : s < h) (hn : n / 2 = h) {k : Nat} (hk : 3 ^ s % (2 * n) = k) (hk2 : k ≤ 2 * n) :
    NI ((W.setCell ⟨B + 1 + 1, 4 + s, none⟩ (.int .i64 (k : Int))).setCell ⟨B + 1 + 1, 4 + (h + s), none⟩ (.int .i64 ((2 * n - k : Nat) : Int))) B n p gP cP i gZ cZ j fP fZ (exP n h (s + 1)) := by
  refine ⟨?_, own_set (own_set hN.oP hN.n2) hN.n2, own_set (own_set hN.oZ hN.n3) hN.n3, hN.n1, hN.n2, hN.n3, hN.lP, hN.lZ⟩
  have h1 := slF_ex (i := h + s) (x := 2 * n - k) (slF_ex (i := s) (x := k) hN.row)
  refine h1.congr fun t ht => ?_
  congr 1
  funext t
  unfold exP
  by_cases e1 : t = h + s
  · subst e1
    rw [if_pos rfl, if_pos (by omega)]
    unfold exN
    rw [hn, if_neg (by omega), Nat.add_sub_cancel_left, hk]
  · rw [if_neg e1]
    by_cases e2 : t = s
    · subst e2
      rw [if_pos rfl, if_pos (by omega)]
      unfold exN
      rw [hn, if_pos hs, hk]
    · rw [if_neg e2]
      by_cases e3 : t < s ∨ (h ≤ t ∧ t < h + s)
      · rw [if_pos e3, if_pos (by omega)]
      · rw [if_neg e3, if_neg (by omega)]
theorem ni_drew {W : World} {B n p gP cP i gZ cZ j : Nat} {fP fZ ex : Nat → Nat} (h : NI W B n p gP cP i gZ cZ j fP fZ ex) (d : Nat) : NI (W.drewN d) B n p gP cP i gZ cZ j fP fZ ex := ⟨h.row, h.oP, h.oZ, h.n1, h.n2, h.n3, h.lP, h.lZ⟩
theorem ni_sl {W : World} {B n p gP cP R gZ cZ x h lo : Nat} (hN : NI W B n p gP cP (R + 1) gZ cZ (2 * n) (fun k => p ^ k) (fun k => x ^ k % p ^ R) (exP n h h)) (hn : n = 2 * h) (hn32 : n ≤ 32) (hlo : lo ≤ B) : Sl W lo (B + 1 + 1) n p R x := by
  refine ⟨hN.row.cell (show 0 < 36 by omega), hN.row.cell (show 1 < 36 by omega), ⟨gP, cP, hN.row.cell (show 2 < 36 by omega), Nat.le_trans hlo hN.lP, own_lt hN.oP, fun i hi => ?_⟩, ⟨gZ, cZ, hN.row.cell (show 3 < 36 by omega), Nat.le_trans hlo hN.lZ, own_lt hN.oZ, fun i hi => ?_⟩, fun j hj => ?_, by omega, hN.row.lt⟩
  · rcases hN.oP.cases with ⟨h, _⟩ | ⟨g, h, _, _, _, _, hc, _⟩
    · cases h
    · injection h with h
      injection h with h
      subst h
      rw [hc i (by omega)]
      simp only [ku, trN]
      rw [if_pos (by omega)]
  · rcases hN.oZ.cases with ⟨h, _⟩ | ⟨g, h, _, _, _, _, hc, _⟩
    · cases h
    · injection h with h
      injection h with h
      subst h
      rw [hc i hi]
      simp only [ku, trN]
      rw [if_pos hi]
  · have := hN.row.cell (show 4 + j < 36 by omega)
    rw [this, slF_e]
    unfold exP
    rw [if_pos (by omega)]

end Go.Proofs.Ytcnkddoipmaddaa

namespace Go.Proofs.Ytcnkddoipmaddaa
open Go.RowKit
set_option linter.unusedVariables false

/-- a region of a code, by its number -/
def findR (k : Nat) : Code → Option Code
  | .region id ops b => if id = k then some (.region id ops b) else none
  | .seq a b => match findR k a with
    | some c => some c
    | none => findR k b
  | .block _ c => findR k c
  | .scope c => findR k c
  | .loop c => findR k c
  | .cond _ a b => match findR k a with
    | some c => some c
    | none => findR k b
  | _ => none
noncomputable def newReg (k : Nat) : Code := (Try.f21.body.bind (findR k)).getD .skip

set_option maxRecDepth 100000 in
set_option maxHeartbeats 4000000 in
theorem nReg9 (t0 t2 t3 t4 t5 t6 t7 t8 t9 t11 t12 t13 t14 t15 t16 t17 t18 t19 t20 t21 t22 t23 t24 t25 t26 t27 t28 t29 t30 t31 t32 t33 t34 t35 t36 t37 t38 t39 t40 t41 t42 t43 t44 t45 t46 t47 t48 t49 t50 t51 t52 t53 t54 t55 t56 t57 t58 t59 t60 t61 t62 t63 t64 t65 t66 t67 t68 t69 t70 t71 t72 t73 t74 t75 t76 t77 t78 t79 t80 t81 t82 t83 t84 t85 t86 t87 t88 t89 t90 t91 t92 t93 t94 t95 t96 t97 t98 t99 t100 t101 t102 t103 t104 t105 t106 t107 t108 t109 t110 t111 t112 t113 t114 t115 t116 t117 t118 t119 t120 t121 t122 t123 t124 t125 t126 t127 t128 t129 t130 t131 t132 t133 t134 t135 t136 t137 t138 t139 : Value) (B n p R i gP cP gZ cZ j : Nat) (fZ ex : Nat → Nat) (Q : Exit → Act → World → Prop) (wr : World) (hNI : NI wr B n p gP cP (i + 1) gZ cZ j (fun k => p ^ k) fZ ex) (hp2 : 2 ≤ p) (hp6 : p ≤ 65535) (hiR : i ≤ 100) (hpe : p ^ (i + 1) ≤ 2147483647)
    (hQ : ∀ (v37 v38 v39 v40 v41 v42 v43 v44 v45 v46 v47 v48 v49 v50 v51 v52 v53 v54 v55 v56 v57 v58 v59 v60 v61 v62 v63 v64 : Value) (gg cap : Nat) (w' : World), NI w' B n p gg cap (i + 1 + 1) gZ cZ j (fun k => p ^ k) fZ ex → Below B wr w' → Q .normal ⟨#[t0, .int .u32 (p : Int), t2, t3, t4, t5, t6, t7, t8, t9, .pointer (some ⟨B + 1 + 1, 0, none⟩), t11, t12, t13, t14, t15, t16, t17, t18, t19, t20, t21, t22, t23, t24, t25, t26, t27, t28, t29, t30, t31, t32, t33, t34, t35, t36, v37, v38, v39, v40, v41, v42, v43, v44, v45, v46, v47, v48, v49, v50, v51, v52, v53, v54, v55, v56, v57, v58, v59, v60, v61, v62, v63, v64, t65, t66, t67, t68, t69, t70, t71, t72, t73, t74, t75, t76, t77, t78, t79, t80, t81, t82, t83, t84, t85, t86, t87, t88, t89, t90, t91, t92, t93, t94, t95, t96, t97, t98, t99, t100, t101, t102, t103, t104, t105, t106, t107, t108, t109, t110, t111, t112, t113, t114, t115, t116, t117, t118, t119, t120, t121, t122, t123, t124, t125, t126, t127, t128, t129, t130, t131, t132, t133, t134, t135, t136, t137, t138, t139], []⟩ w') :
    Code.wp Try.prog (newReg 9) Q ⟨#[t0, .int .u32 (p : Int), t2, t3, t4, t5, t6, t7, t8, t9, .pointer (some ⟨B + 1 + 1, 0, none⟩), t11, t12, t13, t14, t15, t16, t17, t18, t19, t20, t21, t22, t23, t24, t25, t26, t27, t28, t29, t30, t31, t32, t33, t34, t35, t36, t37, t38, t39, t40, t41, t42, t43, t44, t45, t46, t47, t48, t49, t50, t51, t52, t53, t54, t55, t56, t57, t58, t59, t60, t61, t62, t63, t64, t65, t66, t67, t68, t69, t70, t71, t72, t73, t74, t75, t76, t77, t78, t79, t80, t81, t82, t83, t84, t85, t86, t87, t88, t89, t90, t91, t92, t93, t94, t95, t96, t97, t98, t99, t100, t101, t102, t103, t104, t105, t106, t107, t108, t109, t110, t111, t112, t113, t114, t115, t116, t117, t118, t119, t120, t121, t122, t123, t124, t125, t126, t127, t128, t129, t130, t131, t132, t133, t134, t135, t136, t137, t138, t139], []⟩ wr := by
  have hltB := hNI.row.lt
  have kr2 : wr.cell? ⟨B + 1 + 1, 2, none⟩ = some (.slice (some ⟨gP, 0, none⟩) (i + 1) cP) := hNI.row.cell (show 2 < 36 by omega)
  have hgPl := own_lt hNI.oP
  have kg : wr.cell? ⟨gP, i, none⟩ = some (.int .u64 ((p ^ i : Nat) : Int)) := by
    rcases hNI.oP.cases with ⟨h, _⟩ | ⟨g, h, _, _, _, _, hc, _⟩
    · cases h
    · injection h with h
      injection h with h
      subst h
      have := hc i (by omega)
      rw [this]
      simp [ku, trN]
  obtain ⟨u, hu⟩ : ∃ u, p ^ i = u := ⟨_, rfl⟩
  rw [hu] at kg
  obtain ⟨y, hy⟩ : ∃ y, u * p = y := ⟨_, rfl⟩
  have hyi : (u : Int) * (p : Int) = (y : Int) := by rw [← hy]; simp
  have hyb : y ≤ 2147483647 := by
    rw [← hy, ← hu, ← Nat.pow_succ]
    exact hpe
  have HY : Hid (y = p ^ (i + 1)) := Lib.hid (by rw [Nat.pow_succ, hu, hy])
  have hwy : IntKind.u64.wrap (y : Int) = (y : Int) := IntWalk.u64_in _ (by omega)
  have hub : u ≤ 2147483647 := by
    rw [← hy] at hyb
    have := Nat.mul_le_mul_left u (show 1 ≤ p by omega)
    omega
  have hwu : IntKind.u64.wrap (u : Int) = (u : Int) := IntWalk.u64_in _ (by omega)
  have hwp : IntKind.u64.wrap (p : Int) = (p : Int) := IntWalk.u64_in _ (by omega)
  have hwi : IntKind.i64.wrap (i : Int) = (i : Int) := IntWalk.i64_in _ (by omega)
  have HNI := Lib.hid hNI
  have hoa := (hNI.oP.alloc (.cells #[Value.int .u64 (y : Int)] 61)).2
  have HOA := Lib.hid hoa
  have hi0' : 0 ≤ (i : Int) := by omega
  have hi1' : (i : Int) < (i : Int) + 1 := by omega
  obtain ⟨i0, hi0, hz9⟩ := Option.map_eq_some_iff.1 e64u.hi
  simp only [Prod.mk.injEq] at hz9
  obtain ⟨y1, y2, y3⟩ := hz9
  have HQ := Lib.hid hQ
  clear hu hy hNI hoa hQ hpe
  conv => arg 2; whnf
  refine wp_region_noPanic ?_
  go_region_law (first
    | (refine step_append_lies _ (by rfl) _ _ _ (by rfl) B 61 i0 _ 1 8 e64u.ht hi0 y1 y2 y3 (by rfl) (by decide) _ (i + 1) _ (by rfl) (HOA.out.drew) ⟨wr.heap.size, 0, none⟩ 1 1 [.int .u64 (y : Int)] (by rfl) (by rfl) (World.news_of_block (cs := #[.int .u64 (y : Int)]) (t := 61) (fr := (0, 0)) (heap_alloc_new wr _)) (by simp [Value.oneCell']) (by omega) (by unfold maxLen; omega) (by omega) (by simp; omega) (wr.heap.size + 1) (by simp) ?_
       intro gg cap w5 hown5 hg5 hat5 hlt5
       have HO5 := Lib.hid (own_app hown5 HY.out)
       have HR5 := Lib.hid (row_grown HNI.out.row _ hg5 HNI.out.n2.symm)
       have c5 : w5.cell? ⟨B + 1 + 1, 2, none⟩ = some (.slice (some ⟨gP, 0, none⟩) (i + 1) cP) := HR5.out.cell (show 2 < 36 by omega)
       have f5 := HR5.out.frozen 2
       have HN5 := Lib.hid (ni_P HNI.out hg5 hat5 HO5.out)
       clear hown5 hg5 hat5)
    | fail)
  all_goals exact NoPanic.normal (HQ.out _ _ _ _ _ _ _ _ _ _ _ _ _ _ _ _ _ _ _ _ _ _ _ _ _ _ _ _ gg cap _ HN5.out.1 HN5.out.2)
end Go.Proofs.Ytcnkddoipmaddaa
