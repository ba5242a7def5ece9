/- The contract of the reference's needed of layer 25. -/
import Derived.Test.YtmidpholmgmdpaaLp25
namespace Go.Proofs.Ytmidpholmgmdpaa
open Go.RowKit
set_option linter.unusedVariables false

/-- a row of bools -/
def kB (f : Nat → Bool) : Nat → Value := fun j => .bool (f j)
theorem rowB_set {w : World} {b t n : Nat} {f : Nat → Bool} (h : w.rowIs b t n (kB f)) (i : Nat) (x : Bool) : (w.setCell ⟨b, i, none⟩ (.bool x)).rowIs b t n (kB (fun j => if j = i then x else f j)) :=
  (h.set i _).congr fun j _ => by
    simp only [kB]
    split <;> rfl
section laws
variable {P : Program} {w : World} {ops : Array Oper} {rest : List Oper} {o : Oper} {a : Act} {Q : Exit → Act → World → Prop}
theorem wpl_makeB (hg : o.guard = none) (l c : Operand) (t : TypeId) (hop : o.op = Op.makeSlice t l c) {e : TypeId} (ht : P.underlying t = some (.slice e)) (hi : (P.info? e).map (fun i => (i.zero, i.size, i.bytes)) = some (some (.bool false), 1, 1))
    (kl kc : IntKind) (L C : Int) (n : Nat) (hl : a.eval l = .int kl L) (hc : a.eval c = .int kc C) (hL : L = (n : Int)) (hC : C = (n : Int)) (hn : n ≤ 1000000)
    (h : ∀ w', w'.rowIs w.heap.size e n (kB fun _ => false) → Below w.heap.size w w' → w.heap.size < w'.heap.size → wpList P ops Q rest (a.put o.dst (.slice (some ⟨w.heap.size, 0, none⟩) n n)) w') :
    wpList P ops Q (o :: rest) a w := by
  refine wpList_plain hg fun K hK => ?_
  have hrun := run_make_row' (P := P) t e (.bool false) 1 ht hi rfl kl kc n (by omega) (by omega) w
  subst hL hC
  unfold Oper.wp
  simp [execOp, hop, hl, hc, hrun, Result.andThen]
  exact hK _ _ (h _ ((World.rowIs_made w (.bool false) n e).congr fun i _ => rfl) ((Below.refl _ _).alloc (Nat.le_refl _) _) (by simp))
end laws
/-- what needed answers -/
structure NdOk (s : Nat → PS) (n : Nat) (nd : Nat → Bool) : Prop where
  last : nd n = true
  reg : ∀ i, i < n → nd (i + 1) = true → (s i).mul = true → nd (s i).a.toNat = true ∧ nd (s i).b.toNat = true
  cst : ∀ i, i < n → nd (i + 1) = true → ∀ k, k < (s i).n → (s i).cs k ≠ 0 → nd k = true
  dep : ∀ j, j ≤ n → nd j = true → depD s j ≤ depD s n
/-- the state of needed's loop before the step i -/
structure NdAt (s : Nat → PS) (n i : Nat) (nd : Nat → Bool) : Prop where
  last : nd n = true
  reg : ∀ j, i ≤ j → j < n → nd (j + 1) = true → (s j).mul = true → nd (s j).a.toNat = true ∧ nd (s j).b.toNat = true
  cst : ∀ j, i ≤ j → j < n → nd (j + 1) = true → ∀ k, k < (s j).n → (s j).cs k ≠ 0 → nd k = true
  dep : ∀ j, j ≤ n → nd j = true → depD s j ≤ depD s n
theorem NdAt.skip {s : Nat → PS} {n i : Nat} {nd : Nat → Bool} (h : NdAt s n (i + 1) nd) (h1 : nd (i + 1) = false) : NdAt s n i nd :=
  ⟨h.last, fun j hj hn hd => (Nat.eq_or_lt_of_le hj).elim (fun e => by subst e; rw [h1] at hd; cases hd) (fun e => h.reg j e hn hd),
    fun j hj hn hd => (Nat.eq_or_lt_of_le hj).elim (fun e => by subst e; rw [h1] at hd; cases hd) (fun e => h.cst j e hn hd), h.dep⟩
/-- a mark more -/
def mark (nd : Nat → Bool) (k : Nat) : Nat → Bool := fun j => if j = k then true else nd j
theorem mark_le {nd : Nat → Bool} {k j : Nat} (h : nd j = true) : mark nd k j = true := by
  unfold mark
  split
  · rfl
  · exact h
theorem mark_self (nd : Nat → Bool) (k : Nat) : mark nd k k = true := if_pos rfl
theorem mark_ge {nd : Nat → Bool} {k j : Nat} (h : k < j) : mark nd k j = nd j := if_neg (by omega)
theorem NdAt.mark {s : Nat → PS} {n i k : Nat} {nd : Nat → Bool} (h : NdAt s n (i + 1) nd) (hk : k ≤ i) (hin : i < n) (hd : depD s k ≤ depD s n) : NdAt s n (i + 1) (mark nd k) where
  last := mark_le h.last
  reg := fun j hj hn hj1 hm => by
    rw [mark_ge (by omega)] at hj1
    obtain ⟨h1, h2⟩ := h.reg j hj hn hj1 hm
    exact ⟨mark_le h1, mark_le h2⟩
  cst := fun j hj hn hj1 q hq hc => by
    rw [mark_ge (by omega)] at hj1
    exact mark_le (h.cst j hj hn hj1 q hq hc)
  dep := fun j hj hd2 => by
    unfold Proofs.Ytmidpholmgmdpaa.mark at hd2
    split at hd2
    · rename_i e; rw [e]; exact hd
    · exact h.dep j hj hd2
theorem NdAt.done {s : Nat → PS} {n i : Nat} {nd : Nat → Bool} (h : NdAt s n (i + 1) nd) (hr : (s i).mul = true → nd (s i).a.toNat = true ∧ nd (s i).b.toNat = true) (hc : ∀ k, k < (s i).n → (s i).cs k ≠ 0 → nd k = true) : NdAt s n i nd :=
  ⟨h.last, fun j hj hn hd hm => (Nat.eq_or_lt_of_le hj).elim (fun e => by subst e; exact hr hm) (fun e => h.reg j e hn hd hm),
    fun j hj hn hd k hk hk2 => (Nat.eq_or_lt_of_le hj).elim (fun e => by subst e; exact hc k hk hk2) (fun e => h.cst j e hn hd k hk hk2), h.dep⟩
theorem dep_reg {t n i : Nat} {s : Nat → PS} (h : PlnOk t n s) (hi : i < n) (hm : (s i).mul = true) : depD s (s i).a.toNat ≤ depD s (i + 1) ∧ depD s (s i).b.toNat ≤ depD s (i + 1) := by
  have h1 := depD_succ (h i hi)
  unfold dst at h1
  rw [if_pos hm] at h1
  have h2 := (mxs_ge (depD s) (s i).cs (1 + (if depD s (s i).b.toNat > depD s (s i).a.toNat then depD s (s i).b.toNat else depD s (s i).a.toNat)) (s i).n).1
  rw [← h1] at h2
  split at h2 <;> omega
theorem dep_cst {t n i : Nat} {s : Nat → PS} (h : PlnOk t n s) (hi : i < n) {k : Nat} (hk : k < (s i).n) (hc : (s i).cs k ≠ 0) : depD s k ≤ depD s (i + 1) := by
  rw [depD_succ (h i hi)]
  exact (mxs_ge _ _ _ _).2 k hk hc
def RetNd (w : World) (s : Nat → PS) (n : Nat) (e : Ending) (w' : World) : Prop :=
  ∃ (b : Nat) (nd : Nat → Bool), e = .returned (.slice (some ⟨b, 0, none⟩) (n + 1) (n + 1)) ∧ w.heap.size ≤ b ∧ b < w'.heap.size ∧ w'.rowIs b 4 (n + 1) (kB nd) ∧ Below w.heap.size w w' ∧ NdOk s n nd

set_option maxRecDepth 100000 in
set_option maxHeartbeats 40000000 in
theorem rneeded25_any (t n c : Nat) (A : Option Addr) (s : Nat → PS) (w : World) (hs : Pln w w.heap.size A n s) (hok : PlnOk t n s) (hn : n ≤ 600) :
    Calls Try.prog 46 #[.slice A n c] w (RetNd w s n) := by
  have HS := Lib.hid hs
  have HOK := Lib.hid hok
  have HN1 : Hid ((n : Int) + 1 = ((n + 1 : Nat) : Int)) := Lib.hid (by omega)
  clear hs hok
  go_enter Try.func46, Try.ntmps46
  go_wp2_with (at_make; refine wpl_makeB rfl _ _ _ rfl (e := 4) Try.underlying70 (by kernel_rfl) .i64 .i64 _ _ (n + 1) rfl rfl HN1.out HN1.out (by omega) ?_; intro w4 hr4 hb4 hs4; have k4 := hr4.cell (show n < n + 1 by omega); have f4 := hr4.frozen n; have HR4 := Lib.hid hr4; clear hr4)
  have HR5 := Lib.hid (rowB_set HR4.out n true)
  have HB5 := Lib.hid (hb4.setCell (p := ⟨w.heap.size, n, none⟩) (Nat.le_refl _) (.bool true))
  have HZ5 : Hid (w.heap.size < (w4.setCell ⟨w.heap.size, n, none⟩ (.bool true)).heap.size) := Lib.hid (by simpa using hs4)
  have hz5 := HZ5.out
  have HAT0 : Hid (NdAt s n n (fun j => if j = n then true else false)) := Lib.hid ⟨if_pos rfl, fun j h1 h2 => absurd h2 (by omega), fun j h1 h2 => absurd h2 (by omega), fun j hj hd => by
    by_cases e : j = n
    · rw [e]; exact Int.le_refl _
    · rw [if_neg e] at hd; cases hd⟩
  clear k4 f4 hb4 hs4
  generalize hw5 : w4.setCell ⟨w.heap.size, n, none⟩ (.bool true) = w5 at *
  go_loopw [4] (fun I w' => ∃ (i : Nat) (nd : Nat → Bool), I = .int .i64 ((i : Int) - 1) ∧ i ≤ n ∧ NdAt s n i nd ∧ w'.rowIs w.heap.size 4 (n + 1) (kB nd) ∧ Below w.heap.size w w' ∧ w.heap.size < w'.heap.size) (fun I _ => (intOf I + 1).toNat)
  case atStart => exact ⟨n, _, rfl, Nat.le_refl _, HAT0.out, HR5.out, HB5.out, hz5⟩
  case round =>
    obtain ⟨i, nd, rfl, hin, hat, hrow, hbl, hzr⟩ := hrel
    have HAT := Lib.hid hat
    have HROW := Lib.hid hrow
    have HBL := Lib.hid hbl
    clear hat hrow hbl
    rcases i with _ | i
    · have e1 : decide (((0 : Nat) : Int) - 1 ≥ 0) = false := decide_eq_false (by omega)
      go_wp2
      go_ret
      exact ⟨w.heap.size, nd, rfl, Nat.le_refl _, hzr, HROW.out, HBL.out, HAT.out.last, fun j hj => HAT.out.reg j (Nat.zero_le _) hj, fun j hj => HAT.out.cst j (Nat.zero_le _) hj, HAT.out.dep⟩
    have hI : (((i + 1 : Nat) : Int) - 1) = (i : Int) := by omega
    rw [hI]
    have e1 : decide ((i : Int) ≥ 0) = true := decide_eq_true (by omega)
    have e1' : decide (0 ≤ (i : Int)) = true := decide_eq_true (by omega)
    have r1 := HROW.out.cell (show i + 1 < n + 1 by omega)
    simp only [kB] at r1
    cases hnd : nd (i + 1) with
    | false =>
      rw [hnd] at r1
      have HAT2 := Lib.hid (HAT.out.skip hnd)
      clear hnd
      go_wp2
      go_roundw
      case rel => exact ⟨i, nd, rfl, by omega, HAT2.out, HROW.out, HBL.out, hzr⟩
      case measure => simp only [intOf]; omega
    | true =>
      rw [hnd] at r1
      have HDN := Lib.hid (HAT.out.dep (i + 1) (by omega) hnd)
      obtain ⟨g, off, hAe, hg, hst⟩ := (HS.out.below HBL.out) (by omega)
      obtain ⟨k0, k1, k2, k3, C, cC, k4, hsq, hsn⟩ := hst i (by omega)
      rw [hAe]
      have i0 : 0 ≤ (i : Int) := by omega
      have i1 : (i : Int) < (n : Int) := by omega
      have hstep := HOK.out i (by omega)
      have HRG := Lib.hid (fun hm => dep_reg HOK.out (show i < n by omega) hm)
      have HCT := Lib.hid (fun k hk hc => dep_cst HOK.out (show i < n by omega) (k := k) hk hc)
      have HDO := Lib.hid (fun nd' (h : NdAt s n (i + 1) nd') => h.done)
      obtain ⟨S, hS⟩ : ∃ x, s i = x := ⟨_, rfl⟩
      rw [hS] at k0 k1 k2 k3 k4 hsq hsn hstep HRG HCT HDO
      obtain ⟨sm, sa, sb, sf, sn, cs⟩ := S
      simp only at k0 k1 k2 k3 k4 hsq hsn HRG HCT HDO
      have HQ := Lib.hid hsq
      clear hst hsq hAe hS hnd
      cases sm with
      | true =>
        unfold stepOk at hstep
        rw [if_pos rfl] at hstep
        obtain ⟨⟨a0, a1, b0, b1⟩, f0, n0⟩ := hstep
        simp only at a0 a1 b0 b1 f0 n0
        subst f0
        subst n0
        obtain ⟨a, rfl, ha⟩ := toNat_reg a0 a1
        obtain ⟨b, rfl, hb⟩ := toNat_reg b0 b1
        have j1 : (a : Int) < ((n : Int) + 1) := by omega
        have j2 : (b : Int) < ((n : Int) + 1) := by omega
        have j3 : 0 ≤ (a : Int) := by omega
        have j4 : 0 ≤ (b : Int) := by omega
        have fA := HROW.out.frozen a
        have fB := HROW.out.frozen b
        have rA := HROW.out.cell (show a < n + 1 by omega)
        have rB := HROW.out.cell (show b < n + 1 by omega)
        simp only [kB] at rA rB
        have rC : (wr.setCell ⟨w.heap.size, a, none⟩ (.bool true)).cell? ⟨w.heap.size, b, none⟩ = some (.bool (mark nd a b)) := (rowB_set HROW.out a true).cell (show b < n + 1 by omega)
        have fC := (rowB_set HROW.out a true).frozen b
        have rD : (wr.setCell ⟨w.heap.size, b, none⟩ (.bool true)).cell? ⟨w.heap.size, a, none⟩ = some (.bool (mark nd b a)) := (rowB_set HROW.out b true).cell (show a < n + 1 by omega)
        go_wp2
        go_region
        obtain ⟨w9, hw9⟩ : ∃ w9, w9 = ((wr.setCell ⟨w.heap.size, a, none⟩ (.bool true)).setCell ⟨w.heap.size, b, none⟩ (.bool true)).drew := ⟨_, rfl⟩
        have HRW2 : Hid (w9.rowIs w.heap.size 4 (n + 1) (kB (mark (mark nd a) b))) := Lib.hid (by rw [hw9]; exact rowB_set (rowB_set HROW.out a true) b true)
        have hb9 : Below w.heap.size wr w9 := by rw [hw9]; exact (((Below.refl _ wr).setCell (p := ⟨w.heap.size, a, none⟩) (Nat.le_refl _) _).setCell (p := ⟨w.heap.size, b, none⟩) (Nat.le_refl _) _).drew
        have k4' := (hb9.cell (p := ⟨g, off + i * 5 + 4, none⟩) hg).trans k4
        have hz9 : w.heap.size < w9.heap.size := Nat.lt_of_lt_of_le hzr (by rw [hw9]; simp)
        have HB9 := Lib.hid (HBL.out.trans hb9)
        go_wp2
        all_goals (try rw [← hw9])
        clear hw9 hb9
        go_loopw [5] (fun K w' => K = .int .i64 0 ∧ w' = w9) (fun _ _ => 0)
        case atStart => exact ⟨rfl, by trivial⟩
        case round =>
          obtain ⟨rfl, rfl⟩ := hrel
          go_wp2
          go_roundw
          case rel => exact ⟨i, _, rfl, by omega, HDO.out _ ((HAT.out.mark (by omega) (by omega) (Int.le_trans (HRG.out (by trivial)).1 HDN.out)).mark (by omega) (by omega) (Int.le_trans (HRG.out (by trivial)).2 HDN.out)) (fun _ => ⟨mark_le (mark_self _ _), mark_self _ _⟩) (fun k hk => absurd hk (Nat.not_lt_zero k)), HRW2.out, HB9.out, hz9⟩
          case measure => simp only [intOf]; omega
      | false =>
        have hstep2 := hstep
        unfold stepOk at hstep2
        rw [if_neg Bool.false_ne_true] at hstep2
        obtain ⟨a0, b0, n0, f0, _⟩ := hstep2
        simp only at a0 b0 n0 f0
        subst a0
        subst b0
        clear hstep
        go_wp2
        go_loopw [5] (fun K w' => ∃ (k : Nat) (nd2 : Nat → Bool), K = .int .i64 (k : Int) ∧ k ≤ sn ∧ NdAt s n (i + 1) nd2 ∧ (∀ j, j < k → cs j ≠ 0 → nd2 j = true) ∧ w'.rowIs w.heap.size 4 (n + 1) (kB nd2) ∧ Below w.heap.size wr w' ∧ w.heap.size < w'.heap.size) (fun K _ => sn - (intOf K).toNat)
        case atStart => exact ⟨0, nd, rfl, Nat.zero_le _, HAT.out, fun j hj => absurd hj (Nat.not_lt_zero j), HROW.out, Below.refl _ _, hzr⟩
        case round =>
          obtain ⟨k, nd2, rfl, hk, hat2, hcs2, hrow2, hbl2, hz2⟩ := hrel
          have HAT2 := Lib.hid hat2
          have HCS2 := Lib.hid hcs2
          have HROW2 := Lib.hid hrow2
          have HBL2 := Lib.hid (HBL.out.trans hbl2)
          have HBW := Lib.hid hbl2
          have k4' := (hbl2.cell (p := ⟨g, off + i * 5 + 4, none⟩) hg).trans k4
          have HQ2 := Lib.hid (HQ.out.below hbl2 (Nat.le_refl _))
          clear hat2 hcs2 hrow2 hbl2
          by_cases hks : k < sn
          · have e5 : decide ((k : Int) < (sn : Int)) = true := decide_eq_true (by omega)
            obtain ⟨g2, off2, hC, _, hg2, hcell⟩ := HQ2.out.2 (by omega)
            have k5 := hcell k (by omega)
            have j0 : 0 ≤ (k : Int) := by omega
            have j1 : (k : Int) < (sn : Int) := by omega
            have j2 : (k : Int) < ((n : Int) + 1) := by omega
            rw [hC] at k4'
            obtain ⟨v, hv⟩ : ∃ v, cs k = v := ⟨_, rfl⟩
            rw [hv] at k5
            clear hcell hC
            by_cases hv0 : v = 0
            · subst hv0
              have HC3 : Hid (∀ j, j < k + 1 → cs j ≠ 0 → nd2 j = true) := Lib.hid fun j hj hc => by
                rcases Nat.lt_or_ge j k with h | h
                · exact HCS2.out j h hc
                · obtain rfl : j = k := by omega
                  exact absurd hv hc
              clear hv
              go_wp2
              go_roundw
              case rel => exact ⟨k + 1, nd2, by go_num, hks, HAT2.out, HC3.out, HROW2.out, HBW.out, hz2⟩
              case measure => simp only [intOf]; omega
            · have HC3 : Hid (∀ j, j < k + 1 → cs j ≠ 0 → mark nd2 k j = true) := Lib.hid fun j hj hc => by
                rcases Nat.lt_or_ge j k with h | h
                · exact mark_le (HCS2.out j h hc)
                · obtain rfl : j = k := by omega
                  exact mark_self _ _
              have HAT3 := Lib.hid (HAT2.out.mark (show k ≤ i by omega) (by omega) (Int.le_trans (HCT.out k hks (by rw [hv]; exact hv0)) HDN.out))
              have d5 : decide (v ≠ 0) = true := decide_eq_true hv0
              have fK := HROW2.out.frozen k
              have rK := HROW2.out.cell (show k < n + 1 by omega)
              simp only [kB] at rK
              have HRW3 := Lib.hid (rowB_set HROW2.out k true)
              have HB3 := Lib.hid (HBW.out.setCell (p := ⟨w.heap.size, k, none⟩) (Nat.le_refl _) (.bool true))
              clear hv
              go_wp2
              go_roundw
              case rel => exact ⟨k + 1, mark nd2 k, by go_num, hks, HAT3.out, HC3.out, HRW3.out, HB3.out, by simpa using hz2⟩
              case measure => simp only [intOf]; omega
          · obtain rfl : sn = k := by omega
            have e5 : decide ((sn : Int) < (sn : Int)) = false := decide_eq_false (by omega)
            go_wp2
            go_roundw
            case rel => exact ⟨i, nd2, rfl, by omega, HDO.out _ HAT2.out (fun h => absurd h Bool.false_ne_true) HCS2.out, HROW2.out, HBL2.out, hz2⟩
            case measure => simp only [intOf]; omega
end Go.Proofs.Ytmidpholmgmdpaa
