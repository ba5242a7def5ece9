/- The contract of modular.fits. -/
/- The contract of modular.Inverse. -/
/- Numbers that came in. -/
/- A slice of numbers that came in, told by a function. -/
/- The contracts of factor's plain, Degree and value. -/
/- The contract of factor.value: a polynomial's value and its derivative's, modulo m; slices of signed numbers. -/
/- The slots in memory; the contracts of check, residue and balanced. -/
/- The reference's slots in memory; the contracts of Modulus, Balanced, turned, Exponent, zeta and Valid. -/
/- The contracts of the reference's Prime and Modulus of layer 7. -/
import Derived.Test.YtmidpholmgmdpaaPow
import Derived.Test.YtmidpholmgmdpaaEuclid
import Derived.Test.YtmidpholmgmdpaaAlg
import Derived.Test.YtmidpholmgmdpaaSl8
namespace Go.Proofs.Ytmidpholmgmdpaa
open Go.RowKit

/-- n is a modulus and the numbers are residues -/
def fitsB (n L : Nat) (f : Nat → Nat) : Bool := ((List.range L).all fun j => decide (f j < n)) && (decide (2 ≤ n) && decide (n ≤ 2147483647))

theorem fitsB_big {n L k : Nat} {f : Nat → Nat} (hk : k < L) (h : n ≤ f k) : fitsB n L f = false := by
  unfold fitsB
  have : ((List.range L).all fun j => decide (f j < n)) = false := by
    simp only [List.all_eq_false, List.mem_range, decide_eq_true_eq]
    exact ⟨k, hk, by omega⟩
  rw [this]
  rfl
theorem fitsB_all {n L : Nat} {f : Nat → Nat} (h : ∀ j, j < L → f j < n) : fitsB n L f = (decide (2 ≤ n) && decide (n ≤ 2147483647)) := by
  unfold fitsB
  have : ((List.range L).all fun j => decide (f j < n)) = true := by
    simp only [List.all_eq_true, List.mem_range, decide_eq_true_eq]
    exact h
  rw [this]
  rfl

set_option maxHeartbeats 400000 in
theorem fits_any (n L c : Nat) (A : Option Addr) (f : Nat → Nat) (w : World) (lo hi : Nat) (h : Sq .u32 w lo hi A L f) (hL : L ≤ 8) :
    Calls Try.prog 66 #[.int .u32 n, .slice A L c] w (RetP w (.bool (fitsB n L f))) := by
  go_enter Try.func66, Try.ntmps66
  go_wp2
  go_loop [9] (fun i => ∃ k : Nat, k ≤ L ∧ i = .int .i64 k ∧ (∀ j, j < k → f j < n)) (fun i => L - (intOf i).toNat)
  case atStart => exact ⟨0, Nat.zero_le _, rfl, fun j hj => absurd hj (Nat.not_lt_zero j)⟩
  case round =>
    obtain ⟨k, hk, rfl, hle⟩ := hrel
    have HL := Lib.hid hle
    clear hle
    by_cases hkL : k < L
    · obtain ⟨g, off, rfl, _, _, hcell⟩ := h.2 (by omega)
      have hc1 := hcell k hkL
      obtain ⟨x, hx⟩ : ∃ x, f k = x := ⟨_, rfl⟩
      rw [hx] at hc1
      have HX := Lib.hid hx
      clear hx hcell h
      by_cases hxn : n ≤ x
      · go_wp2
        go_ret
        exact ⟨by rw [fitsB_big hkL (by rw [HX.out]; exact hxn)]; rfl, rfl⟩
      · go_wp2
        go_round
        case rel =>
          refine ⟨k + 1, by omega, by go_num, fun j hj => ?_⟩
          rcases Nat.lt_or_ge j k with h | h
          · exact HL.out j h
          · rw [show j = k from by omega, HX.out]; omega
        case measure => simp [intOf]; omega
    · clear h
      have HF := Lib.hid (fitsB_all (n := n) (fun j (hj : j < L) => HL.out j (by omega)))
      by_cases h2 : 2 ≤ n
      · by_cases h3 : n ≤ 2147483647
        · have hdd : decide ((n : Int) ≤ 2147483647) = true := decide_eq_true (by omega)
          have hB : (decide (2 ≤ n) && decide (n ≤ 2147483647)) = true := by simp [h2, h3]
          have HB := Lib.hid hB
          clear hB
          go_wp2
          go_ret
          exact ⟨by rw [HF.out, HB.out]; rfl, rfl⟩
        · have hdd : decide ((n : Int) ≤ 2147483647) = false := decide_eq_false (by omega)
          have hB : (decide (2 ≤ n) && decide (n ≤ 2147483647)) = false := by simp [h3]
          have HB := Lib.hid hB
          clear hB
          go_wp2
          go_ret
          exact ⟨by rw [HF.out, HB.out]; rfl, rfl⟩
      · have hB : (decide (2 ≤ n) && decide (n ≤ 2147483647)) = false := by simp [h2]
        have HB := Lib.hid hB
        clear hB
        go_wp2
        go_ret
        exact ⟨by rw [HF.out, HB.out]; rfl, rfl⟩

theorem fits_one {a m : Nat} : fitsB m 1 (oneF a) = true ↔ a < m ∧ 2 ≤ m ∧ m ≤ 2147483647 := by
  unfold fitsB oneF
  simp [List.range_succ]
end Go.Proofs.Ytmidpholmgmdpaa

namespace Go.Proofs.Ytmidpholmgmdpaa
open Go.RowKit

def EuState (m a : Nat) (r s p q : Value) : Prop := ∃ (x y : Nat) (u v : Int), EI m a x y u v ∧ r = .int .i64 x ∧ s = .int .i64 y ∧ p = .int .i64 u ∧ q = .int .i64 v

/-- what an inverse comes to -/
def invE (a n : Nat) : Nat × Nat := if fitsB n 1 (oneF a) = true then (if Nat.gcd n a = 1 then (invN a n, 0) else (0, 4)) else (0, 2)
def InvBool (a m : Nat) (w : World) (e : Ending) (w' : World) : Prop :=
  w = w' ∧ ((Nat.gcd m a = 1 ∧ e = .returned (.tuple #[.int .u32 (invN a m : Nat), .bool true])) ∨ (Nat.gcd m a ≠ 1 ∧ e = .returned (.tuple #[.int .u32 0, .bool false])))
def InvErr (a m : Nat) (w : World) (e : Ending) (w' : World) : Prop :=
  Below w.heap.size w w' ∧ e = .returned (.tuple #[.int .u32 ((invE a m).1 : Nat), .int .i64 ((invE a m).2 : Nat)])
theorem invE_ok {a m : Nat} (h : fitsB m 1 (oneF a) = true) (hg : Nat.gcd m a = 1) : invE a m = (invN a m, 0) := by
  unfold invE
  rw [if_pos h, if_pos hg]
theorem invE_none {a m : Nat} (h : fitsB m 1 (oneF a) = true) (hg : Nat.gcd m a ≠ 1) : invE a m = (0, 4) := by
  unfold invE
  rw [if_pos h, if_neg hg]
theorem invE_arg {a m : Nat} (h : fitsB m 1 (oneF a) = false) : invE a m = (0, 2) := by
  unfold invE
  rw [if_neg (by rw [h]; decide)]
theorem ret_pair {x y : Value} {a b c d : Value} (h1 : a = c) (h2 : b = d) (_ : x = a) (_ : y = b) : Ending.returned (.tuple #[a, b]) = .returned (.tuple #[c, d]) := by rw [h1, h2]

set_option maxHeartbeats 1000000 in
theorem inverse_any (a m : Nat) (w : World) :
    Calls Try.prog 52 #[.int .u32 a, .int .u32 m] w (InvErr a m w) := by
  have hsq : ∀ o, o = Obj.cells #[Value.int .u32 (a : Nat)] 22 → Sq .u32 (w.alloc o) 0 (w.heap.size + 1) (some ⟨w.heap.size, 0, none⟩) 1 (oneF a) := fun o ho => by subst ho; exact sq_one rfl (Nat.zero_le _) (Nat.lt_succ_self _)
  have HS := Lib.hid (hsq _ rfl)
  have hbel := (Below.refl w.heap.size w).alloc (Nat.le_refl _) (Obj.cells #[Value.int .u32 (a : Nat)] 22)
  clear hsq
  by_cases hf : fitsB m 1 (oneF a) = true
  · have hfit := fits_any m 1 1 _ (oneF a) _ 0 _ HS.out (by omega)
    rw [hf] at hfit
    obtain ⟨ha, hm, hm2⟩ := fits_one.1 hf
    have HF := Lib.hid hf
    have HT := Lib.hid hfit
    clear hf hfit
    go_enter Try.func52, Try.ntmps52
    go_wp2_with (go_at_call 66; refine HT.out.mono ?_; rintro e w' ⟨rfl, rfl⟩)
    clear HT HS
    go_loop [6, 7, 8, 9] (EuState m a) (fun _ s _ _ => (intOf s).toNat)
    case atStart => exact ⟨m, a, 0, 1, EI.start ha, rfl, rfl, rfl, rfl⟩
    case round =>
      obtain ⟨x, y, u, v, hei, rfl, rfl, rfl, rfl⟩ := hrel
      by_cases hy : 0 < y
      · have hstep := Lib.hid (hei.step hy)
        obtain ⟨b1, b2, b3, b4, b5⟩ := hei.bounds hy
        obtain ⟨b6, b7⟩ := quo_bounds x y
        have hle := hei.le
        have htop := hei.top
        have hsm := hei.small
        have h5 := Lib.hid b5
        have hyz : ((y : Int) != 0) = true := by simp; omega
        have hmodlt := Nat.mod_lt x hy
        clear b5 hei
        go_wp2
        go_round
        case rel => exact ⟨y, x % y, v, _, hstep.out, rfl, by rw [← h5.out], rfl, rfl⟩
        case measure =>
          have := h5.out
          simp [intOf]
          omega
      · obtain rfl : y = 0 := by omega
        have hg := hei.end_
        by_cases hx1 : x = 1
        · subst hx1
          have hi := hei.inv hm
          have hsm := hei.small
          by_cases hu : u < 0
          · rw [if_pos hu] at hi
            obtain ⟨i1, i2, i3⟩ := hi
            have H3 := Lib.hid i3
            have HG := Lib.hid hg
            clear hei hg i3
            go_wp2
            go_ret2
            exact ⟨hbel, by rw [invE_ok HF.out HG.out.symm, H3.out]; rfl⟩
          · rw [if_neg hu] at hi
            obtain ⟨i1, i2, i3⟩ := hi
            have H3 := Lib.hid i3
            have HG := Lib.hid hg
            clear hei hg i3
            go_wp2
            go_ret2
            exact ⟨hbel, by rw [invE_ok HF.out HG.out.symm, H3.out]; rfl⟩
        · have hxz : ((x : Int) != 1) = true := by simp; omega
          have hle := hei.le
          have HG := Lib.hid hg
          clear hei hg
          go_wp2
          go_ret2
          exact ⟨hbel, by rw [invE_none HF.out (by rw [← HG.out]; exact hx1)]; rfl⟩
  · have hf2 : fitsB m 1 (oneF a) = false := by
      cases h : fitsB m 1 (oneF a)
      · rfl
      · exact absurd h hf
    have hfit := fits_any m 1 1 _ (oneF a) _ 0 _ HS.out (by omega)
    rw [hf2] at hfit
    have HF := Lib.hid hf2
    have HT := Lib.hid hfit
    clear hf hf2 hfit
    go_enter Try.func52, Try.ntmps52
    go_wp2_with (go_at_call 66; refine HT.out.mono ?_; rintro e w' ⟨rfl, rfl⟩)
    go_ret2
    exact ⟨hbel, by rw [invE_arg HF.out]; rfl⟩
end Go.Proofs.Ytmidpholmgmdpaa

namespace Go.Proofs.Ytmidpholmgmdpaa
open Go.RowKit
theorem u32_arg {a : Int} (h : (Lit.int .u32 a).wf = true) : ∃ m : Nat, a = (m : Int) ∧ m ≤ 4294967295 := by
  simp [Lit.wf, IntKind.min, IntKind.max, IntKind.signed, IntKind.bits] at h
  exact ⟨a.toNat, by omega, by omega⟩
theorem u64_arg {a : Int} (h : (Lit.int .u64 a).wf = true) : ∃ m : Nat, a = (m : Int) ∧ m < 18446744073709551616 := by
  simp [Lit.wf, IntKind.min, IntKind.max, IntKind.signed, IntKind.bits] at h
  exact ⟨a.toNat, by omega, by omega⟩
theorem i64_arg {a : Int} (h : (Lit.int .i64 a).wf = true) : -9223372036854775808 ≤ a ∧ a ≤ 9223372036854775807 := by
  simp [Lit.wf, IntKind.min, IntKind.max, IntKind.signed, IntKind.bits] at h
  omega
end Go.Proofs.Ytmidpholmgmdpaa

namespace Go.Proofs.Ytmidpholmgmdpaa
open Go.RowKit
set_option linter.unusedVariables false

theorem sq_arg {w : World} {a : Option Addr} {len cap : Nat} {zs : List Int}
    (h : (a = none ∧ len = 0 ∧ cap = 0 ∧ zs = []) ∨ ∃ x, a = some x ∧ len ≤ cap ∧ cap ≤ maxLen ∧ zs.length = cap ∧ (∀ i, i < zs.length → w.cell? (x.add i) = some (.int .u32 (zs.getD i 0))) ∧ ∀ n ∈ zs, (Lit.int .u32 n).wf = true) :
    ∃ f, Sq .u32 w 0 w.heap.size a len f ∧ (∀ j, f j ≤ 4294967295) ∧ len ≤ 9223372036854775807 := by
  rcases h with ⟨rfl, rfl, rfl, rfl⟩ | ⟨x, rfl, hl, hm, hz, hc, hw⟩
  · exact ⟨fun _ => 0, Sq.nil _ _ _ _ _, fun _ => Nat.zero_le _, by omega⟩
  · have hbd : ∀ j, j < len → 0 ≤ zs.getD j 0 ∧ zs.getD j 0 ≤ 4294967295 := by
      intro j hj
      have hjl : j < zs.length := by omega
      have := hw (zs.getD j 0) (by rw [List.getD_eq_getElem?_getD, List.getElem?_eq_getElem hjl]; exact List.getElem_mem hjl)
      simp [Lit.wf, IntKind.min, IntKind.max, IntKind.signed, IntKind.bits] at this
      simpa using this
    refine ⟨fun j => if j < len then (zs.getD j 0).toNat else 0, ⟨fun j hj => if_neg (by omega), fun hn => ?_⟩, fun j => ?_, by unfold maxLen at hm; omega⟩
    · obtain ⟨b, off, spot⟩ := x
      have h0 := hc 0 (by omega)
      have hspot : spot = none := by simpa [Addr.add] using World.cell?_spot h0
      subst hspot
      refine ⟨b, off, rfl, Nat.zero_le _, by simpa [Addr.add] using World.block_lt_of_cell? w _ h0, fun j hj => ?_⟩
      have e1 : (⟨b, off, none⟩ : Addr).add j = ⟨b, off + j, none⟩ := by
        unfold Addr.add
        split
        · simp
        · rfl
      have h1 := hc j (by omega)
      rw [e1] at h1
      rw [h1]
      show some (Value.int .u32 (zs.getD j 0)) = some (.int .u32 (((if j < len then (zs.getD j 0).toNat else 0 : Nat)) : Int))
      rw [if_pos hj, Int.toNat_of_nonneg (hbd j hj).1]
    · show (if j < len then (zs.getD j 0).toNat else 0) ≤ _
      split
      · have := hbd j (by assumption); omega
      · omega
end Go.Proofs.Ytmidpholmgmdpaa

namespace Go.Proofs.Ytmidpholmgmdpaa
open Go.RowKit
set_option linter.unusedVariables false

/-- what plain asks -/
def Pl (p : Nat) (r : Int) : Prop := 3 ≤ p ∧ p ≤ 65535 ∧ Mr.Pr p ∧ 1 ≤ r ∧ p ^ r.toNat ≤ 2147483647
def RetPl (w : World) (p : Nat) (r : Int) (e : Ending) (w' : World) : Prop :=
  Below w.heap.size w w' ∧ ((Pl p r ∧ e = .returned (.tuple #[.int .u64 (((p ^ r.toNat : Nat) : Nat) : Int), .bool true])) ∨ (¬ Pl p r ∧ e = .returned (.tuple #[.int .u64 0, .bool false])))

end Go.Proofs.Ytmidpholmgmdpaa

namespace Go.Proofs.Ytmidpholmgmdpaa
open Go.RowKit
set_option linter.unusedVariables false

/-- a slice of signed 64 bit numbers that reads as f -/
def Si (w : World) (lo hi : Nat) (A : Option Addr) (n : Nat) (f : Nat → Int) : Prop :=
  (∀ j, n ≤ j → f j = 0) ∧ (0 < n → ∃ b off, A = some ⟨b, off, none⟩ ∧ lo ≤ b ∧ b < hi ∧ ∀ j, j < n → w.cell? ⟨b, off + j, none⟩ = some (.int .i64 (f j)))
theorem Si.below {w w' : World} {lo hi B n : Nat} {A : Option Addr} {f : Nat → Int} (h : Si w lo hi A n f) (hb : Below B w w') (hB : hi ≤ B) : Si w' lo hi A n f :=
  ⟨h.1, fun hn => by
    obtain ⟨b, off, e, h1, h2, h3⟩ := h.2 hn
    exact ⟨b, off, e, h1, h2, fun j hj => (hb.cell (p := ⟨b, off + j, none⟩) (by show b < B; omega)).trans (h3 j hj)⟩⟩

theorem pv_shift (a : Nat → Int) (i k : Nat) (x : Int) : pv (fun j => a (i + j)) (k + 1) x = a i + x * pv (fun j => a (i + 1 + j)) k x := by
  unfold pv
  rw [Nat.add_comm k 1, zsum_more, ← zsum_mul_left]
  simp only [zsum, Nat.add_zero, Int.pow_zero, Int.mul_one, Int.zero_add]
  congr 1
  refine zsum_congr k fun j _ => ?_
  rw [show i + (1 + j) = i + 1 + j by omega, show 1 + j = j + 1 by omega, Int.pow_succ]
  grind
theorem dv_shift (a : Nat → Int) (i k : Nat) (x : Int) : dv (fun j => a (i + j)) (k + 1) x = pv (fun j => a (i + 1 + j)) k x + x * dv (fun j => a (i + 1 + j)) k x := by
  unfold pv dv
  rw [Nat.add_comm k 1, zsum_more, ← zsum_mul_left, ← zsum_add]
  simp only [zsum]
  rw [show (((0 : Nat) : Int)) = 0 by rfl, Int.zero_mul, Int.mul_zero, Int.add_zero, Int.zero_add]
  refine zsum_congr k fun j _ => ?_
  rw [show i + (1 + j) = i + 1 + j by omega, show 1 + j - 1 = j by omega, show ((1 + j : Nat) : Int) = (j : Int) + 1 by omega]
  cases j with
  | zero => simp
  | succ t =>
    rw [show t + 1 - 1 = t by omega, Int.pow_succ]
    grind
/-- the value and the derivative, as residues -/
def vN (a : Nat → Int) (n x m : Nat) : Nat := (pv a n x % (m : Int)).toNat
def dN (a : Nat → Int) (n x m : Nat) : Nat := (dv a n x % (m : Int)).toNat
theorem toNat_cg {m : Nat} (hm : 0 < m) (z : Int) : Cg m ((((z % (m : Int)).toNat : Nat)) : Int) z := by
  rw [Int.toNat_of_nonneg (Int.emod_nonneg _ (by omega))]
  exact Cg.mod z
theorem toNat_lt {m : Nat} (hm : 0 < m) (z : Int) : (z % (m : Int)).toNat < m := by
  have h1 := Int.emod_nonneg z (show (m : Int) ≠ 0 by omega)
  have h2 := Int.emod_lt_of_pos z (show (0 : Int) < m by omega)
  omega
theorem eq_vN {a : Nat → Int} {n x m v : Nat} (hv : v < m) (h : Cg m (v : Int) (pv a n x)) : v = vN a n x m :=
  Cg.eq_nat (h.trans (toNat_cg (by omega) _).symm) hv (toNat_lt (by omega) _)
theorem eq_dN {a : Nat → Int} {n x m v : Nat} (hv : v < m) (h : Cg m (v : Int) (dv a n x)) : v = dN a n x m :=
  Cg.eq_nat (h.trans (toNat_cg (by omega) _).symm) hv (toNat_lt (by omega) _)

end Go.Proofs.Ytmidpholmgmdpaa

namespace Go.Proofs.Ytmidpholmgmdpaa
open Go.RowKit
set_option linter.unusedVariables false

theorem below_c {B g i : Nat} {W W' : World} (hb : Below B W W') (hg : g < B) : W'.cell? ⟨g, i, none⟩ = W.cell? ⟨g, i, none⟩ := hb.cell hg
/-- the slots at block b -/
structure Sl (W : World) (lo b n p R x : Nat) : Prop where
  cN : W.cell? ⟨b, 0, none⟩ = some (.int .i64 (n : Int))
  cP : W.cell? ⟨b, 1, none⟩ = some (.int .u32 (p : Int))
  pw : ∃ g c, W.cell? ⟨b, 2, none⟩ = some (.slice (some ⟨g, 0, none⟩) (R + 1) c) ∧ lo ≤ g ∧ g < W.heap.size ∧ ∀ i, i ≤ R → W.cell? ⟨g, i, none⟩ = some (.int .u64 ((p ^ i : Nat) : Int))
  zt : ∃ g c, W.cell? ⟨b, 3, none⟩ = some (.slice (some ⟨g, 0, none⟩) (2 * n) c) ∧ lo ≤ g ∧ g < W.heap.size ∧ ∀ i, i < 2 * n → W.cell? ⟨g, i, none⟩ = some (.int .u64 ((x ^ i % p ^ R : Nat) : Int))
  ex : ∀ j, j < n → W.cell? ⟨b, 4 + j, none⟩ = some (.int .i64 ((exN n j : Nat) : Int))
  lob : lo ≤ b
  lt : b < W.heap.size
theorem Sl.below {W W' : World} {lo b n p R x B : Nat} (h : Sl W lo b n p R x) (hb : Below B W W') (hB : W.heap.size ≤ B) : Sl W' lo b n p R x := by
  have hz := hb.size
  have hlt := h.lt
  obtain ⟨g, c, h1, h2, h3, h4⟩ := h.pw
  obtain ⟨g', c', h1', h2', h3', h4'⟩ := h.zt
  exact ⟨(below_c hb (by omega)).trans h.cN, (below_c hb (by omega)).trans h.cP, ⟨g, c, (below_c hb (by omega)).trans h1, h2, by omega, fun i hi => (below_c hb (by omega)).trans (h4 i hi)⟩, ⟨g', c', (below_c hb (by omega)).trans h1', h2', by omega, fun i hi => (below_c hb (by omega)).trans (h4' i hi)⟩,
    fun j hj => (below_c hb (by omega)).trans (h.ex j hj), h.lob, by omega⟩

/-- Go's rest of a division by a positive number -/
theorem tm_fact (y : Int) {m : Nat} (hm : 0 < m) : ∃ t, y.tmod (m : Int) = t ∧ -(m : Int) < t ∧ t < (m : Int) ∧ Cg m t y := by
  refine ⟨_, rfl, ?_, ?_, ?_⟩
  · exact Int.lt_tmod_of_pos y (by omega)
  · exact Int.tmod_lt_of_pos y (by omega)
  · refine ⟨-(y.tdiv m), ?_⟩
    have := Int.mul_tdiv_add_tmod y m
    grind
theorem cg_emod {m : Nat} (hm : 0 < m) {x y : Int} (h : Cg m x y) : x % (m : Int) = y % (m : Int) := by
  obtain ⟨k, hk⟩ := h
  rw [show x = y + (m : Int) * k by omega, Int.add_mul_emod_self_left]

/-- what a list must be for an exponent -/
def VOk (n p R : Nat) (m : Nat) (a : Nat → Int) (E : Int) : Prop := 1 ≤ E ∧ E ≤ R ∧ m = n ∧ Bl (p ^ E.toNat) n a
/-- 0 if so, and what else -/
def RetE8 (w : World) (P : Prop) (k : Int) (e : Ending) (w' : World) : Prop := w = w' ∧ ((P ∧ e = .returned (.int .i64 0)) ∨ (¬ P ∧ e = .returned (.int .i64 k)))

end Go.Proofs.Ytmidpholmgmdpaa

namespace Go.Proofs.Ytmidpholmgmdpaa
open Go.RowKit
set_option linter.unusedVariables false

/-- the reference's slots at block b -/
structure Rz (W : World) (lo b n p R x : Nat) : Prop where
  cN : W.cell? ⟨b, 0, none⟩ = some (.int .i64 (n : Int))
  cP : W.cell? ⟨b, 1, none⟩ = some (.int .u32 (p : Int))
  cR : W.cell? ⟨b, 2, none⟩ = some (.int .i64 (R : Int))
  cX : W.cell? ⟨b, 3, none⟩ = some (.int .u32 (x : Int))
  lob : lo ≤ b
  lt : b < W.heap.size
theorem Rz.below {W W' : World} {lo b n p R x B : Nat} (h : Rz W lo b n p R x) (hb : Below B W W') (hB : W.heap.size ≤ B) : Rz W' lo b n p R x := by
  have hz := hb.size
  have hlt := h.lt
  exact ⟨(below_c hb (by omega)).trans h.cN, (below_c hb (by omega)).trans h.cP, (below_c hb (by omega)).trans h.cR, (below_c hb (by omega)).trans h.cX, h.lob, by omega⟩

theorem rbal8_any (y : Int) (m : Nat) (w : World) (hm3 : 3 ≤ m) (hm : m ≤ 2147483647) (hodd : m % 2 = 1) :
    Calls Try.prog 37 #[.int .i64 y, .int .i64 (m : Int)] w (RetP w (.int .i64 (bal m y))) := by
  obtain ⟨t, ht, t1, t2, t3⟩ := tm_fact y (m := m) (by omega)
  obtain ⟨h, hh⟩ : ∃ h, m / 2 = h := ⟨_, rfl⟩
  have ht1 : ((m : Int) - 1).tdiv 2 = (h : Int) := by rw [Int.tdiv_eq_ediv_of_nonneg (by omega)]; omega
  have ht1d : ((m : Int) - 1) / 2 = (h : Int) := by omega
  have ht2 : (-((m : Int) - 1)).tdiv 2 = -(h : Int) := by rw [Int.neg_tdiv, ht1]
  have hbal : ∀ z : Int, Cg m z y → -(h : Int) ≤ z → z ≤ (h : Int) → bal m y = z := fun z hz h1 h2 => bal_of hodd hz (by rw [hh]; exact ⟨h1, h2⟩)
  have hmm : (m : Int) = 2 * (h : Int) + 1 := by omega
  have hm0 : ¬ m = 0 := by omega
  have hcase : (h : Int) < t ∨ (t ≤ (h : Int) ∧ t < -(h : Int)) ∨ (t ≤ (h : Int) ∧ -(h : Int) ≤ t) := by omega
  rcases hcase with h1 | ⟨h1, h2⟩ | ⟨h1, h2⟩
  · have e1 : decide (t > (h : Int)) = true := decide_eq_true (by omega)
    have e2 : decide ((h : Int) < t) = true := decide_eq_true (by omega)
    have HE := Lib.hid (hbal (t - m) (Cg.trans ⟨-1, by omega⟩ t3) (by omega) (by omega))
    clear t3 hbal hmm hh
    go_enter Try.func37, Try.ntmps37
    go_wp2
    go_ret
    exact ⟨by rw [HE.out]; rfl, rfl⟩
  · have e1 : decide (t > (h : Int)) = false := decide_eq_false (by omega)
    have e2 : decide ((h : Int) < t) = false := decide_eq_false (by omega)
    have e3 : decide (t < -(h : Int)) = true := decide_eq_true (by omega)
    have HE := Lib.hid (hbal (t + m) (Cg.trans ⟨1, by omega⟩ t3) (by omega) (by omega))
    clear t3 hbal hmm hh
    go_enter Try.func37, Try.ntmps37
    go_wp2
    go_ret
    exact ⟨by rw [HE.out]; rfl, rfl⟩
  · have e1 : decide (t > (h : Int)) = false := decide_eq_false (by omega)
    have e2 : decide ((h : Int) < t) = false := decide_eq_false (by omega)
    have e3 : decide (t < -(h : Int)) = false := decide_eq_false (by omega)
    have HE := Lib.hid (hbal t t3 (by omega) (by omega))
    clear t3 hbal hmm hh
    go_enter Try.func37, Try.ntmps37
    go_wp2
    go_ret
    exact ⟨by rw [HE.out]; rfl, rfl⟩

/-- a call that returns one value and draws -/
def RetQ (w : World) (v : Value) (e : Ending) (w' : World) : Prop := e = .returned v ∧ ∃ d, w' = w.drewN d
/-- true or false as a claim holds -/
def RetB (w : World) (P : Prop) (e : Ending) (w' : World) : Prop := w = w' ∧ ((P ∧ e = .returned (.bool true)) ∨ (¬ P ∧ e = .returned (.bool false)))

end Go.Proofs.Ytmidpholmgmdpaa

namespace Go.Proofs.Ytmidpholmgmdpaa
open Go.RowKit
set_option linter.unusedVariables false

theorem rprime5_any (q : Nat) (w : World) (hq : q ≤ 4294967295) : Calls Try.prog 67 #[.int .u32 q] w (RetP w (.bool (prB q))) := by
  have HP := Lib.hid (rprime_any q w hq)
  obtain ⟨b, hb⟩ : ∃ b, prB q = b := ⟨_, rfl⟩
  rw [hb] at HP ⊢
  clear hb
  go_enter Try.func67, Try.ntmps67
  go_wp2_with fail
  (with_reducible refine HP.out.mono ?_)
  rintro e w1 ⟨rfl, hw⟩
  subst hw
  go_wp2_with fail
  go_ret
  exact ⟨rfl, rfl⟩
/-- a plain prime -/
noncomputable def pp7 (p : Nat) : Bool := decide (2 < p) && (decide (p < 65536) && prB p)
theorem pp7_yes {p : Nat} : pp7 p = true ↔ 3 ≤ p ∧ p ≤ 65535 ∧ Mr.Pr p := by
  unfold pp7
  rw [Bool.and_eq_true, Bool.and_eq_true, decide_eq_true_iff, decide_eq_true_iff, prB_true]
  exact ⟨fun h => ⟨by omega, by omega, h.2.2⟩, fun h => ⟨by omega, by omega, h.2.2⟩⟩
theorem rpp7_any (p : Nat) (w : World) (hp : p ≤ 4294967295) : Calls Try.prog 57 #[.int .u32 p] w (RetP w (.bool (pp7 p))) := by
  have HP := Lib.hid (rprime5_any p w hp)
  obtain ⟨b, hb⟩ : ∃ b, prB p = b := ⟨_, rfl⟩
  have HB := Lib.hid hb
  rw [hb] at HP
  clear hb
  have hc : p ≤ 2 ∨ (2 < p ∧ 65536 ≤ p) ∨ (2 < p ∧ p < 65536) := by omega
  rcases hc with h1 | ⟨h1, h2⟩ | ⟨h1, h2⟩
  · have d1 : decide ((p : Int) > 2) = false := decide_eq_false (by omega)
    have HE : Hid (pp7 p = false) := Lib.hid (by unfold pp7; rw [decide_eq_false (by omega)]; rfl)
    go_enter Try.func57, Try.ntmps57
    go_wp2
    go_ret
    exact ⟨by rw [HE.out]; rfl, rfl⟩
  · have d1 : decide ((p : Int) > 2) = true := decide_eq_true (by omega)
    have d2 : decide ((p : Int) < 65536) = false := decide_eq_false (by omega)
    have HE : Hid (pp7 p = false) := Lib.hid (by unfold pp7; rw [decide_eq_true h1, decide_eq_false (by omega)]; rfl)
    go_enter Try.func57, Try.ntmps57
    go_wp2
    go_ret
    exact ⟨by rw [HE.out]; rfl, rfl⟩
  · have d1 : decide ((p : Int) > 2) = true := decide_eq_true (by omega)
    have d2 : decide ((p : Int) < 65536) = true := decide_eq_true (by omega)
    have HE : Hid (pp7 p = b) := Lib.hid (by unfold pp7; rw [decide_eq_true h1, decide_eq_true h2, HB.out]; rfl)
    go_enter Try.func57, Try.ntmps57
    go_wp2_with (go_at_call 67; refine HP.out.mono ?_; rintro e w' ⟨rfl, hw⟩; subst hw)
    go_ret
    exact ⟨by rw [HE.out]; rfl, rfl⟩

theorem pl_40 {p : Nat} {r : Int} (h : Pl p r) : r ≤ 40 := by
  rcases Int.lt_or_le 40 r with h1 | h1
  · exfalso
    have h2 := h.2.2.2.2
    have h3 : p ^ 41 ≤ p ^ r.toNat := Nat.pow_le_pow_right (by have := h.1; omega) (by omega)
    have h4 : 3 ^ 41 ≤ p ^ 41 := Nat.pow_le_pow_left h.1 41
    have h5 : (2147483647 : Nat) < 3 ^ 41 := by decide
    omega
  · exact h1
end Go.Proofs.Ytmidpholmgmdpaa
