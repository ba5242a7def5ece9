/- The contract of modular.fits. -/
/- The contract of modular.Inverse. -/
/- Numbers that came in. -/
/- A slice of numbers that came in, told by a function. -/
/- The contract of poly.trim: the slice, cut behind its last element that is not zero. -/
/- The contracts of small functions of the reference: at, Same, power, Trim; and of the law's own: large, spoil, lent, kept. -/
/- The contract of poly.valid, at any number of polynomials; at one and at two. -/
/- The contract of poly.product. -/
import Derived.Test.YtkklacgoeopekaaRet
import Derived.Test.YtkklacgoeopekaaChecked
namespace Go.Proofs.Ytkklacgoeopekaa
open Go.RowKit

/-- n is a modulus and the numbers are residues -/
def fitsB (n L : Nat) (f : Nat → Nat) : Bool := ((List.range L).all fun j => decide (f j < n)) && (decide (2 ≤ n) && decide (n ≤ 2147483647))

theorem fitsB_big {n L k : Nat} {f : Nat → Nat} (hk : k < L) (h : n ≤ f k) : fitsB n L f = false := by
  unfold fitsB
  have : ((List.range L).all fun j => decide (f j < n)) = false := by
    simp only [List.all_eq_false, List.mem_range, decide_eq_true_eq]
    exact ⟨k, hk, by omega⟩
  rw [this]
  rfl
theorem fitsB_all {n L : Nat} {f : Nat → Nat} (h : ∀ j, j < L → f j < n) : fitsB n L f = (decide (2 ≤ n) && decide (n ≤ 2147483647)) := by
  unfold fitsB
  have : ((List.range L).all fun j => decide (f j < n)) = true := by
    simp only [List.all_eq_true, List.mem_range, decide_eq_true_eq]
    exact h
  rw [this]
  rfl

set_option maxHeartbeats 400000 in
theorem fits_any (n L c : Nat) (A : Option Addr) (f : Nat → Nat) (w : World) (lo hi : Nat) (h : Sq .u32 w lo hi A L f) (hL : L ≤ 8) :
    Calls Try.prog 44 #[.int .u32 n, .slice A L c] w (RetP w (.bool (fitsB n L f))) := by
  go_enter Try.func44, Try.ntmps44
  go_wp2
  go_loop [9] (fun i => ∃ k : Nat, k ≤ L ∧ i = .int .i64 k ∧ (∀ j, j < k → f j < n)) (fun i => L - (intOf i).toNat)
  case atStart => exact ⟨0, Nat.zero_le _, rfl, fun j hj => absurd hj (Nat.not_lt_zero j)⟩
  case round =>
    obtain ⟨k, hk, rfl, hle⟩ := hrel
    have HL := Lib.hid hle
    clear hle
    by_cases hkL : k < L
    · obtain ⟨g, off, rfl, _, _, hcell⟩ := h.2 (by omega)
      have hc1 := hcell k hkL
      obtain ⟨x, hx⟩ : ∃ x, f k = x := ⟨_, rfl⟩
      rw [hx] at hc1
      have HX := Lib.hid hx
      clear hx hcell h
      by_cases hxn : n ≤ x
      · go_wp2
        go_ret
        exact ⟨by rw [fitsB_big hkL (by rw [HX.out]; exact hxn)]; rfl, rfl⟩
      · go_wp2
        go_round
        case rel =>
          refine ⟨k + 1, by omega, by go_num, fun j hj => ?_⟩
          rcases Nat.lt_or_ge j k with h | h
          · exact HL.out j h
          · rw [show j = k from by omega, HX.out]; omega
        case measure => simp [intOf]; omega
    · clear h
      have HF := Lib.hid (fitsB_all (n := n) (fun j (hj : j < L) => HL.out j (by omega)))
      by_cases h2 : 2 ≤ n
      · by_cases h3 : n ≤ 2147483647
        · have hdd : decide ((n : Int) ≤ 2147483647) = true := decide_eq_true (by omega)
          have hB : (decide (2 ≤ n) && decide (n ≤ 2147483647)) = true := by simp [h2, h3]
          have HB := Lib.hid hB
          clear hB
          go_wp2
          go_ret
          exact ⟨by rw [HF.out, HB.out]; rfl, rfl⟩
        · have hdd : decide ((n : Int) ≤ 2147483647) = false := decide_eq_false (by omega)
          have hB : (decide (2 ≤ n) && decide (n ≤ 2147483647)) = false := by simp [h3]
          have HB := Lib.hid hB
          clear hB
          go_wp2
          go_ret
          exact ⟨by rw [HF.out, HB.out]; rfl, rfl⟩
      · have hB : (decide (2 ≤ n) && decide (n ≤ 2147483647)) = false := by simp [h2]
        have HB := Lib.hid hB
        clear hB
        go_wp2
        go_ret
        exact ⟨by rw [HF.out, HB.out]; rfl, rfl⟩

theorem fits_one {a m : Nat} : fitsB m 1 (oneF a) = true ↔ a < m ∧ 2 ≤ m ∧ m ≤ 2147483647 := by
  unfold fitsB oneF
  simp [List.range_succ]
end Go.Proofs.Ytkklacgoeopekaa

namespace Go.Proofs.Ytkklacgoeopekaa
open Go.RowKit

def EuState (m a : Nat) (r s p q : Value) : Prop := ∃ (x y : Nat) (u v : Int), EI m a x y u v ∧ r = .int .i64 x ∧ s = .int .i64 y ∧ p = .int .i64 u ∧ q = .int .i64 v

/-- what an inverse comes to -/
def invE (a n : Nat) : Nat × Nat := if fitsB n 1 (oneF a) = true then (if Nat.gcd n a = 1 then (invN a n, 0) else (0, 4)) else (0, 2)
def InvBool (a m : Nat) (w : World) (e : Ending) (w' : World) : Prop :=
  w = w' ∧ ((Nat.gcd m a = 1 ∧ e = .returned (.tuple #[.int .u32 (invN a m : Nat), .bool true])) ∨ (Nat.gcd m a ≠ 1 ∧ e = .returned (.tuple #[.int .u32 0, .bool false])))
def InvErr (a m : Nat) (w : World) (e : Ending) (w' : World) : Prop :=
  Below w.heap.size w w' ∧ e = .returned (.tuple #[.int .u32 ((invE a m).1 : Nat), .int .i64 ((invE a m).2 : Nat)])
theorem invE_ok {a m : Nat} (h : fitsB m 1 (oneF a) = true) (hg : Nat.gcd m a = 1) : invE a m = (invN a m, 0) := by
  unfold invE
  rw [if_pos h, if_pos hg]
theorem invE_none {a m : Nat} (h : fitsB m 1 (oneF a) = true) (hg : Nat.gcd m a ≠ 1) : invE a m = (0, 4) := by
  unfold invE
  rw [if_pos h, if_neg hg]
theorem invE_arg {a m : Nat} (h : fitsB m 1 (oneF a) = false) : invE a m = (0, 2) := by
  unfold invE
  rw [if_neg (by rw [h]; decide)]
theorem ret_pair {x y : Value} {a b c d : Value} (h1 : a = c) (h2 : b = d) (_ : x = a) (_ : y = b) : Ending.returned (.tuple #[a, b]) = .returned (.tuple #[c, d]) := by rw [h1, h2]

set_option maxHeartbeats 1000000 in
theorem inverse_any (a m : Nat) (w : World) :
    Calls Try.prog 37 #[.int .u32 a, .int .u32 m] w (InvErr a m w) := by
  have hsq : ∀ o, o = Obj.cells #[Value.int .u32 (a : Nat)] 22 → Sq .u32 (w.alloc o) 0 (w.heap.size + 1) (some ⟨w.heap.size, 0, none⟩) 1 (oneF a) := fun o ho => by subst ho; exact sq_one rfl (Nat.zero_le _) (Nat.lt_succ_self _)
  have HS := Lib.hid (hsq _ rfl)
  have hbel := (Below.refl w.heap.size w).alloc (Nat.le_refl _) (Obj.cells #[Value.int .u32 (a : Nat)] 22)
  clear hsq
  by_cases hf : fitsB m 1 (oneF a) = true
  · have hfit := fits_any m 1 1 _ (oneF a) _ 0 _ HS.out (by omega)
    rw [hf] at hfit
    obtain ⟨ha, hm, hm2⟩ := fits_one.1 hf
    have HF := Lib.hid hf
    have HT := Lib.hid hfit
    clear hf hfit
    go_enter Try.func37, Try.ntmps37
    go_wp2_with (go_at_call 44; refine HT.out.mono ?_; rintro e w' ⟨rfl, rfl⟩)
    clear HT HS
    go_loop [6, 7, 8, 9] (EuState m a) (fun _ s _ _ => (intOf s).toNat)
    case atStart => exact ⟨m, a, 0, 1, EI.start ha, rfl, rfl, rfl, rfl⟩
    case round =>
      obtain ⟨x, y, u, v, hei, rfl, rfl, rfl, rfl⟩ := hrel
      by_cases hy : 0 < y
      · have hstep := Lib.hid (hei.step hy)
        obtain ⟨b1, b2, b3, b4, b5⟩ := hei.bounds hy
        obtain ⟨b6, b7⟩ := quo_bounds x y
        have hle := hei.le
        have htop := hei.top
        have hsm := hei.small
        have h5 := Lib.hid b5
        have hyz : ((y : Int) != 0) = true := by simp; omega
        have hmodlt := Nat.mod_lt x hy
        clear b5 hei
        go_wp2
        go_round
        case rel => exact ⟨y, x % y, v, _, hstep.out, rfl, by rw [← h5.out], rfl, rfl⟩
        case measure =>
          have := h5.out
          simp [intOf]
          omega
      · obtain rfl : y = 0 := by omega
        have hg := hei.end_
        by_cases hx1 : x = 1
        · subst hx1
          have hi := hei.inv hm
          have hsm := hei.small
          by_cases hu : u < 0
          · rw [if_pos hu] at hi
            obtain ⟨i1, i2, i3⟩ := hi
            have H3 := Lib.hid i3
            have HG := Lib.hid hg
            clear hei hg i3
            go_wp2
            go_ret2
            exact ⟨hbel, by rw [invE_ok HF.out HG.out.symm, H3.out]; rfl⟩
          · rw [if_neg hu] at hi
            obtain ⟨i1, i2, i3⟩ := hi
            have H3 := Lib.hid i3
            have HG := Lib.hid hg
            clear hei hg i3
            go_wp2
            go_ret2
            exact ⟨hbel, by rw [invE_ok HF.out HG.out.symm, H3.out]; rfl⟩
        · have hxz : ((x : Int) != 1) = true := by simp; omega
          have hle := hei.le
          have HG := Lib.hid hg
          clear hei hg
          go_wp2
          go_ret2
          exact ⟨hbel, by rw [invE_none HF.out (by rw [← HG.out]; exact hx1)]; rfl⟩
  · have hf2 : fitsB m 1 (oneF a) = false := by
      cases h : fitsB m 1 (oneF a)
      · rfl
      · exact absurd h hf
    have hfit := fits_any m 1 1 _ (oneF a) _ 0 _ HS.out (by omega)
    rw [hf2] at hfit
    have HF := Lib.hid hf2
    have HT := Lib.hid hfit
    clear hf hf2 hfit
    go_enter Try.func37, Try.ntmps37
    go_wp2_with (go_at_call 44; refine HT.out.mono ?_; rintro e w' ⟨rfl, rfl⟩)
    go_ret2
    exact ⟨hbel, by rw [invE_arg HF.out]; rfl⟩
end Go.Proofs.Ytkklacgoeopekaa

namespace Go.Proofs.Ytkklacgoeopekaa
open Go.RowKit
theorem u32_arg {a : Int} (h : (Lit.int .u32 a).wf = true) : ∃ m : Nat, a = (m : Int) ∧ m ≤ 4294967295 := by
  simp [Lit.wf, IntKind.min, IntKind.max, IntKind.signed, IntKind.bits] at h
  exact ⟨a.toNat, by omega, by omega⟩
theorem u64_arg {a : Int} (h : (Lit.int .u64 a).wf = true) : ∃ m : Nat, a = (m : Int) ∧ m < 18446744073709551616 := by
  simp [Lit.wf, IntKind.min, IntKind.max, IntKind.signed, IntKind.bits] at h
  exact ⟨a.toNat, by omega, by omega⟩
theorem i64_arg {a : Int} (h : (Lit.int .i64 a).wf = true) : -9223372036854775808 ≤ a ∧ a ≤ 9223372036854775807 := by
  simp [Lit.wf, IntKind.min, IntKind.max, IntKind.signed, IntKind.bits] at h
  omega
end Go.Proofs.Ytkklacgoeopekaa

namespace Go.Proofs.Ytkklacgoeopekaa
open Go.RowKit
set_option linter.unusedVariables false

theorem sq_arg {w : World} {a : Option Addr} {len cap : Nat} {zs : List Int}
    (h : (a = none ∧ len = 0 ∧ cap = 0 ∧ zs = []) ∨ ∃ x, a = some x ∧ len ≤ cap ∧ cap ≤ maxLen ∧ zs.length = cap ∧ (∀ i, i < zs.length → w.cell? (x.add i) = some (.int .u32 (zs.getD i 0))) ∧ ∀ n ∈ zs, (Lit.int .u32 n).wf = true) :
    ∃ f, Sq .u32 w 0 w.heap.size a len f ∧ (∀ j, f j ≤ 4294967295) ∧ len ≤ 9223372036854775807 := by
  rcases h with ⟨rfl, rfl, rfl, rfl⟩ | ⟨x, rfl, hl, hm, hz, hc, hw⟩
  · exact ⟨fun _ => 0, Sq.nil _ _ _ _ _, fun _ => Nat.zero_le _, by omega⟩
  · have hbd : ∀ j, j < len → 0 ≤ zs.getD j 0 ∧ zs.getD j 0 ≤ 4294967295 := by
      intro j hj
      have hjl : j < zs.length := by omega
      have := hw (zs.getD j 0) (by rw [List.getD_eq_getElem?_getD, List.getElem?_eq_getElem hjl]; exact List.getElem_mem hjl)
      simp [Lit.wf, IntKind.min, IntKind.max, IntKind.signed, IntKind.bits] at this
      simpa using this
    refine ⟨fun j => if j < len then (zs.getD j 0).toNat else 0, ⟨fun j hj => if_neg (by omega), fun hn => ?_⟩, fun j => ?_, by unfold maxLen at hm; omega⟩
    · obtain ⟨b, off, spot⟩ := x
      have h0 := hc 0 (by omega)
      have hspot : spot = none := by simpa [Addr.add] using World.cell?_spot h0
      subst hspot
      refine ⟨b, off, rfl, Nat.zero_le _, by simpa [Addr.add] using World.block_lt_of_cell? w _ h0, fun j hj => ?_⟩
      have e1 : (⟨b, off, none⟩ : Addr).add j = ⟨b, off + j, none⟩ := by
        unfold Addr.add
        split
        · simp
        · rfl
      have h1 := hc j (by omega)
      rw [e1] at h1
      rw [h1]
      show some (Value.int .u32 (zs.getD j 0)) = some (.int .u32 (((if j < len then (zs.getD j 0).toNat else 0 : Nat)) : Int))
      rw [if_pos hj, Int.toNat_of_nonneg (hbd j hj).1]
    · show (if j < len then (zs.getD j 0).toNat else 0) ≤ _
      split
      · have := hbd j (by assumption); omega
      · omega
end Go.Proofs.Ytkklacgoeopekaa

namespace Go.Proofs.Ytkklacgoeopekaa
open Go.RowKit

theorem e32 : ElemOf Try.prog 34 22 .u32 4 := ⟨Try.underlying34, by kernel_rfl⟩

def TrimRet (A : Option Addr) (n c : Nat) (f : Nat → Nat) (w : World) (e : Ending) (w' : World) : Prop := e = .returned (.slice A (tl f n) c) ∧ w = w'

set_option maxHeartbeats 400000 in
theorem trim_any (A : Option Addr) (n c : Nat) (f : Nat → Nat) (w : World) (lo hi : Nat) (h : Sq .u32 w lo hi A n f) (hc : n ≤ c) (hn : n ≤ 1000000) :
    Calls Try.prog 68 #[.slice A n c] w (TrimRet A n c f w) := by
  go_enter Try.func68, Try.ntmps68
  go_wp2
  go_loop [0] (fun t => ∃ k : Nat, k ≤ n ∧ t = .slice A k c ∧ (∀ j, k ≤ j → j < n → f j = 0)) (fun t => match t with | .slice _ n _ => n | _ => 0)
  case atStart => exact ⟨n, by omega, rfl, fun j h1 h2 => by omega⟩
  case round =>
    obtain ⟨k, hk, rfl, hz⟩ := hrel
    have HZ := Lib.hid hz
    clear hz
    by_cases hk0 : 0 < k
    · obtain ⟨b, off, rfl, _, _, hcell⟩ := h.2 (by omega)
      have hc1 := hcell (k-1) (by omega)
      obtain ⟨x, hx⟩ : ∃ x, f (k-1) = x := ⟨_, rfl⟩
      rw [hx] at hc1
      have HX := Lib.hid hx
      clear hx hcell h
      have hkz : ((k : Int) - 1).toNat = k - 1 := by omega
      go_wp2
      · have hx0 : x = 0 := by
          have h0 : ((x : Int) == 0) = true := by assumption
          simpa using h0
        go_round
        case rel =>
          refine ⟨k - 1, by omega, rfl, fun j h1 h2 => ?_⟩
          rcases Nat.lt_or_ge j k with h | h
          · rw [show j = k - 1 from by omega, HX.out, hx0]
          · exact HZ.out j h h2
        case measure => simp; omega
      · have hx0 : x ≠ 0 := by
          have h0 : ((x : Int) == 0) = false := by assumption
          simpa using h0
        go_ret
        exact ⟨by rw [tl_unique hk HZ.out (fun _ => by rw [HX.out]; exact hx0)]; rfl, rfl⟩
    · obtain rfl : k = 0 := by omega
      go_wp2
      go_ret
      exact ⟨by rw [tl_unique hk HZ.out (fun h => absurd h (Nat.lt_irrefl 0))]; rfl, rfl⟩
end Go.Proofs.Ytkklacgoeopekaa

namespace Go.Proofs.Ytkklacgoeopekaa
open Go.RowKit

set_option maxHeartbeats 400000 in
theorem at_any (A : Option Addr) (n c : Nat) (f : Nat → Nat) (i : Int) (w : World) (lo hi : Nat) (h : Sq .u32 w lo hi A n f) (hn : n ≤ 1000000) (h0 : 0 ≤ i) (hf : ∀ j, f j ≤ 4294967295) :
    Calls Try.prog 62 #[.slice A n c, .int .i64 i] w (RetP w (.int .u64 (f i.toNat))) := by
  obtain ⟨k, rfl⟩ := Int.eq_ofNat_of_zero_le h0
  rw [Int.toNat_natCast]
  by_cases hk : k < n
  · obtain ⟨b, off, rfl, _, _, hcell⟩ := h.2 (by omega)
    have hc1 := hcell k hk
    obtain ⟨x, hx⟩ : ∃ x, f k = x := ⟨_, rfl⟩
    have hxm := hf k
    rw [hx] at hc1 hxm
    rw [hx]
    clear hx hcell h hf
    go_enter Try.func62, Try.ntmps62
    go_wp2
    go_ret
    exact ⟨rfl, rfl⟩
  · rw [h.1 k (by omega)]
    clear h hf
    go_enter Try.func62, Try.ntmps62
    go_wp2
    go_ret
    exact ⟨rfl, rfl⟩

/-- the cells of a slice of slices -/
def Cs (w : World) (b L : Nat) (A : Nat → Option Addr) (n c : Nat → Nat) : Prop := ∀ i, i < L → w.cell? ⟨b, i, none⟩ = some (.slice (A i) (n i) (c i))

def two {α : Type} (x y : α) : Nat → α := fun i => if i = 0 then x else y

theorem Cs.two_ {w : World} {b n1 n2 c1 c2 : Nat} {A1 A2 : Option Addr} (h0 : w.cell? ⟨b, 0, none⟩ = some (.slice A1 n1 c1)) (h1 : w.cell? ⟨b, 1, none⟩ = some (.slice A2 n2 c2)) : Cs w b 2 (two A1 A2) (two n1 n2) (two c1 c2) := by
  intro i hi
  match i, hi with
  | 0, _ => exact h0
  | 1, _ => exact h1
theorem Cs.one_ {w : World} {b n1 c1 : Nat} {A1 : Option Addr} (h0 : w.cell? ⟨b, 0, none⟩ = some (.slice A1 n1 c1)) : Cs w b 1 (fun _ => A1) (fun _ => n1) (fun _ => c1) := by
  intro i hi
  match i, hi with
  | 0, _ => exact h0

def anyLong (L : Nat) (n : Nat → Nat) : Bool := (List.range L).any fun i => decide (300 < n i)

theorem anyLong_true {L k : Nat} {n : Nat → Nat} (hk : k < L) (h : 300 < n k) : anyLong L n = true := by
  unfold anyLong
  simp only [List.any_eq_true, List.mem_range, decide_eq_true_eq]
  exact ⟨k, hk, h⟩
theorem anyLong_false {L : Nat} {n : Nat → Nat} (h : ∀ k, k < L → n k ≤ 300) : anyLong L n = false := by
  unfold anyLong
  simp only [List.any_eq_false, List.mem_range, decide_eq_true_eq]
  intro k hk
  have := h k hk
  omega

set_option maxHeartbeats 400000 in
theorem same0_any (n nb ca cb : Nat) (A B : Option Addr) (a b : Nat → Nat) (w : World) (lo hi lo2 hi2 : Nat) (ha : Sq .u32 w lo hi A n a) (hb : Sq .u32 w lo2 hi2 B nb b) (hn : n ≤ 1000000) (hnb : nb ≤ 1000000) (hhi : hi ≤ w.heap.size) (hhi2 : hi2 ≤ w.heap.size) :
    Calls Try.prog 35 #[.slice A n ca, .slice B nb cb] w (RetV w (.bool (sameB n a nb b))) := by
  by_cases hl : n = nb
  · subst hl
    go_enter Try.func35, Try.ntmps35
    go_wp2
    go_loopw [5] (fun i wr => ∃ k : Nat, k ≤ n ∧ i = .int .i64 k ∧ (∀ j, j < k → a j = b j) ∧ Below w.heap.size w wr) (fun i _ => n - (intOf i).toNat)
    case atStart => exact ⟨0, Nat.zero_le _, rfl, fun j hj => absurd hj (Nat.not_lt_zero j), Below.refl _ _⟩
    case round =>
      obtain ⟨k, hk, rfl, heq, hbel⟩ := hrel
      have HE := Lib.hid heq
      clear heq
      by_cases hkn : k < n
      · obtain ⟨g, off, rfl, _, hg1, hcell⟩ := ha.2 (by omega)
        obtain ⟨g2, off2, rfl, _, hg2, hcell2⟩ := hb.2 (by omega)
        have hc1 := (hbel.cell (p := ⟨g, off + k, none⟩) (by show g < _; omega)).trans (hcell k hkn)
        have hc2 := (hbel.cell (p := ⟨g2, off2 + k, none⟩) (by show g2 < _; omega)).trans (hcell2 k hkn)
        obtain ⟨x, hx⟩ : ∃ x, a k = x := ⟨_, rfl⟩
        obtain ⟨y, hy⟩ : ∃ y, b k = y := ⟨_, rfl⟩
        rw [hx] at hc1
        rw [hy] at hc2
        have HX := Lib.hid hx
        have HY := Lib.hid hy
        clear hx hy hcell hcell2 ha hb
        go_wp2
        go_quiet (fail)
        go_wp2
        · have hne : ((x : Int) != (y : Int)) = true := by assumption
          have hne2 : x ≠ y := by
            intro e
            subst e
            simp at hne
          go_ret
          refine ⟨?_, below_drewN hbel _⟩
          rw [sameB_ne2 hkn (by rw [HX.out, HY.out]; exact hne2)]
          rfl
        · have hne : ((x : Int) != (y : Int)) = false := by assumption
          have hne2 : x = y := by
            have e : (x : Int) = (y : Int) := by simpa using hne
            omega
          go_roundw
          case rel =>
            refine ⟨k + 1, by omega, by go_num, fun j hj => ?_, below_drewN hbel _⟩
            rcases Nat.lt_or_ge j k with h | h
            · exact HE.out j h
            · rw [show j = k from by omega, HX.out, HY.out, hne2]
          case measure => simp [intOf]; omega
      · clear ha hb
        go_wp2
        go_ret
        refine ⟨?_, hbel⟩
        rw [sameB_true.2 ⟨rfl, fun j hj => HE.out j (by omega)⟩]
        rfl
  · rw [sameB_ne1 hl]
    have h1 : ((n : Int) != (nb : Int)) = true := by
      simp only [bne_iff_ne, ne_eq]
      omega
    clear ha hb
    go_enter Try.func35, Try.ntmps35
    go_wp2
    go_ret
    exact ⟨rfl, Below.refl _ _⟩

/-- what spoil leaves: the block b alone is written -/
def RetSpoil (w : World) (b e n c : Nat) (f : Nat → Nat) (en : Ending) (w' : World) : Prop :=
  en = .returned (.tuple #[]) ∧ w'.rowIs b e c (ku .u32 fun j => if j < n then 4294967295 else f j) ∧ w.grownBy w' (some b) ∧ w'.heap.size = w.heap.size

theorem grownBy_setCell {w w' : World} {b i : Nat} {v : Value} (h : w.grownBy w' (some b)) : w.grownBy (w'.setCell ⟨b, i, none⟩ v) (some b) :=
  ⟨h.os, h.tape, h.output, by simpa using h.size, fun k hk hne => (Below.heap_setCell w' ⟨b, i, none⟩ v k (fun e => hne (by rw [e]))).trans (h.block k hk hne)⟩

set_option maxHeartbeats 400000 in
theorem rtrim_any (A : Option Addr) (n c : Nat) (f : Nat → Nat) (w : World) (lo hi : Nat) (h : Sq .u32 w lo hi A n f) (hc : n ≤ c) (hn : n ≤ 1000000) :
    Calls Try.prog 63 #[.slice A n c] w (RetSl w (tl f n) f) := by
  have HS := Lib.hid (sq_tl h)
  go_enter Try.func63, Try.ntmps63
  go_wp2
  go_loop [3] (fun t => ∃ k : Nat, k ≤ n ∧ t = .int .i64 k ∧ (∀ j, k ≤ j → j < n → f j = 0)) (fun t => (intOf t).toNat)
  case atStart => exact ⟨n, by omega, rfl, fun j h1 h2 => by omega⟩
  case round =>
    obtain ⟨k, hk, rfl, hz⟩ := hrel
    have HZ := Lib.hid hz
    clear hz
    by_cases hk0 : 0 < k
    · obtain ⟨b, off, rfl, _, _, hcell⟩ := h.2 (by omega)
      have hc1 := hcell (k-1) (by omega)
      obtain ⟨x, hx⟩ : ∃ x, f (k-1) = x := ⟨_, rfl⟩
      rw [hx] at hc1
      have HX := Lib.hid hx
      clear hx hcell h
      have hkz : ((k : Int) - 1).toNat = k - 1 := by omega
      by_cases hx0 : x = 0
      · subst hx0
        go_wp2
        go_round
        case rel =>
          refine ⟨k - 1, by omega, by go_num, fun j h1 h2 => ?_⟩
          rcases Nat.lt_or_ge j k with h | h
          · rw [show j = k - 1 from by omega, HX.out]
          · exact HZ.out j h h2
        case measure => simp [intOf]; omega
      · have hxz : ((x : Int) == 0) = false := by simp; omega
        have hT : tl f n = k := tl_unique hk HZ.out (fun _ => by rw [HX.out]; exact hx0)
        rw [hT] at HS
        have HT := Lib.hid hT
        clear hT
        go_wp2_with (at_builtin; refine wpl_append rfl _ _ _ rfl e32 rfl (Own.nil _ _ w.heap.size _) rfl HS.out f (fun j h => absurd h (Nat.not_lt_zero j)) (fun j => by rw [Nat.zero_add]) (by unfold maxLen; omega) (by omega) (Nat.le_refl _) ?_; intro A1 c1 w1 hown1 hg1 hb1 hat1)
        go_ret
        have hT := HT.out
        exact ⟨_, _, ret_slice (by omega), by have := hown1.le; omega, sq_n (hown1.sq (Nat.le_refl _)) (by omega), hb1⟩
    · obtain rfl : k = 0 := by omega
      have hT : tl f n = 0 := tl_unique hk HZ.out (fun h => absurd h (Nat.lt_irrefl 0))
      rw [hT] at HS
      have HT := Lib.hid hT
      clear hT h
      go_wp2_with (at_builtin; refine wpl_append rfl _ _ _ rfl e32 rfl (Own.nil _ _ w.heap.size _) rfl HS.out f (fun j h => absurd h (Nat.not_lt_zero j)) (fun j => by rw [Nat.zero_add]) (by unfold maxLen; omega) (by omega) (Nat.le_refl _) ?_; intro A1 c1 w1 hown1 hg1 hb1 hat1)
      go_ret
      have hT := HT.out
      exact ⟨_, _, ret_slice (by omega), by have := hown1.le; omega, sq_n (hown1.sq (Nat.le_refl _)) (by omega), hb1⟩

/-- what lent leaves: the elements, behind them the mark -/
def lentF (n : Nat) (f : Nat → Nat) : Nat → Nat := fun j => if j < n then f j else if j = n then 4294967295 else 0
theorem lentF_lt {n j : Nat} {f : Nat → Nat} (h : j < n) : lentF n f j = f j := if_pos h
theorem lentF_add {n : Nat} {f : Nat → Nat} (j : Nat) : lentF n f (n + j) = oneF 4294967295 j := by
  unfold lentF oneF
  rw [if_neg (by omega)]
  by_cases h : j = 0
  · rw [if_pos (by omega), if_pos h]
  · rw [if_neg (by omega), if_neg h]
def RetLent (w : World) (n : Nat) (f : Nat → Nat) (e : Ending) (w' : World) : Prop :=
  e = .returned (.slice (some ⟨w.heap.size, 0, none⟩) n (n + 1)) ∧ w'.rowIs w.heap.size 22 (n + 1) (ku .u32 (lentF n f)) ∧ Below w.heap.size w w' ∧ w.heap.size < w'.heap.size

set_option maxHeartbeats 400000 in
theorem check_any (m n c : Nat) (A : Option Addr) (f : Nat → Nat) (w : World) (lo hi : Nat) (h : Sq .u32 w lo hi A n f) (hn : n ≤ 9223372036854775807) :
    Calls Try.prog 61 #[.int .u32 m, .slice A n c] w (RetV w (.int .i64 (chk m n f))) := by
  by_cases hm1 : m < 2
  · rw [chk_m (.inl hm1)]
    go_enter Try.func61, Try.ntmps61
    go_wp2
    go_ret
    exact ⟨rfl, Below.refl _ _⟩
  by_cases hm2 : 2147483647 < m
  · rw [chk_m (.inr hm2)]
    go_enter Try.func61, Try.ntmps61
    go_wp2
    go_ret
    exact ⟨rfl, Below.refl _ _⟩
  by_cases hl : 256 < n
  · rw [chk_long (by omega) (by omega) hl]
    go_enter Try.func61, Try.ntmps61
    go_wp2
    go_ret
    exact ⟨rfl, Below.refl _ _⟩
  go_enter Try.func61, Try.ntmps61
  go_wp2
  go_loop [5] (fun i => ∃ k : Nat, k ≤ n ∧ i = .int .i64 k ∧ (∀ j, j < k → f j < m)) (fun i => n - (intOf i).toNat)
  case atStart => exact ⟨0, Nat.zero_le _, rfl, fun j hj => absurd hj (Nat.not_lt_zero j)⟩
  case round =>
    obtain ⟨k, hk, rfl, hle⟩ := hrel
    have HL := Lib.hid hle
    clear hle
    by_cases hkn : k < n
    · obtain ⟨g, off, rfl, _, _, hcell⟩ := h.2 (by omega)
      have hc1 := hcell k hkn
      obtain ⟨x, hx⟩ : ∃ x, f k = x := ⟨_, rfl⟩
      rw [hx] at hc1
      have HX := Lib.hid hx
      clear hx hcell h
      by_cases hxm : m ≤ x
      · go_wp2
        go_ret
        exact ⟨by rw [chk_big (by omega) (by omega) (by omega) hkn (by rw [HX.out]; exact hxm)]; rfl, Below.refl _ _⟩
      · go_wp2
        go_round
        case rel =>
          refine ⟨k + 1, by omega, by go_num, fun j hj => ?_⟩
          rcases Nat.lt_or_ge j k with h | h
          · exact HL.out j h
          · rw [show j = k from by omega, HX.out]; omega
        case measure => simp [intOf]; omega
    · obtain rfl : k = n := by omega
      by_cases hn0 : 0 < k
      · obtain ⟨g, off, rfl, _, _, hcell⟩ := h.2 (by omega)
        have hc1 := hcell (k - 1) (by omega)
        obtain ⟨x, hx⟩ : ∃ x, f (k - 1) = x := ⟨_, rfl⟩
        rw [hx] at hc1
        have HX := Lib.hid hx
        clear hx hcell h
        have hkz : ((k : Int) - 1).toNat = k - 1 := by omega
        by_cases hx0 : x = 0
        · subst hx0
          go_wp2
          go_ret
          exact ⟨by rw [chk_last (by omega) (by omega) (by omega) hn0 HX.out]; rfl, Below.refl _ _⟩
        · have hxz : ((x : Int) == 0) = false := by simp; omega
          go_wp2
          go_ret
          exact ⟨by rw [chk_ok (by omega) (by omega) (by omega) HL.out (fun _ => by rw [HX.out]; exact hx0)]; rfl, Below.refl _ _⟩
      · clear h
        go_wp2
        go_ret
        exact ⟨by rw [chk_ok (by omega) (by omega) (by omega) HL.out (fun h => absurd h hn0)]; rfl, Below.refl _ _⟩

set_option maxHeartbeats 400000 in
theorem both_any (m n nb ca cb : Nat) (A B : Option Addr) (a b : Nat → Nat) (w : World) (lo hi lo2 hi2 : Nat) (ha : Sq .u32 w lo hi A n a) (hb : Sq .u32 w lo2 hi2 B nb b) (hn : n ≤ 9223372036854775807) (hnb : nb ≤ 9223372036854775807) (hhi2 : hi2 ≤ w.heap.size) :
    Calls Try.prog 38 #[.int .u32 m, .slice A n ca, .slice B nb cb] w (RetV w (.int .i64 (chk2 m n a nb b))) := by
  have h1 := check_any m n ca A a w lo hi ha hn
  have HB := Lib.hid hb
  by_cases h0 : chk m n a = 0
  · unfold chk2
    rw [if_pos h0]
    rw [h0] at h1
    have H1 := Lib.hid h1
    clear h1 h0 ha hb
    go_enter Try.func38, Try.ntmps38
    go_wp2_with fail
    refine H1.out.mono ?_
    rintro e w1 ⟨rfl, hb1⟩
    go_wp2_with fail
    refine (check_any m nb cb B b w1 lo2 hi2 (HB.out.below hb1 hhi2) hnb).mono ?_
    rintro e w2 ⟨rfl, hb2⟩
    go_wp2
    go_ret
    exact ⟨rfl, hb1.trans (hb2.mono hb1.size)⟩
  · unfold chk2
    rw [if_neg h0]
    obtain ⟨x, hx⟩ : ∃ x, chk m n a = x := ⟨_, rfl⟩
    rw [hx] at h1 h0
    rw [hx]
    have hxz : ((x : Int) != 0) = true := by simp; omega
    have H1 := Lib.hid h1
    clear h1 hx ha hb
    go_enter Try.func38, Try.ntmps38
    go_wp2_with fail
    refine H1.out.mono ?_
    rintro e w1 ⟨rfl, hb1⟩
    go_wp2
    go_ret
    exact ⟨rfl, hb1⟩
end Go.Proofs.Ytkklacgoeopekaa

namespace Go.Proofs.Ytkklacgoeopekaa
open Go.RowKit

/-- the first error among L polynomials -/
def chkL (m : Nat) (n : Nat → Nat) (f : Nat → Nat → Nat) : Nat → Nat
  | 0 => 0
  | L + 1 => if chkL m n f L = 0 then chk m (n L) (f L) else chkL m n f L

theorem chkL_hit {m k x : Nat} {n : Nat → Nat} {f : Nat → Nat → Nat} (h : ∀ j, j < k → chk m (n j) (f j) = 0) (hx : chk m (n k) (f k) = x) (h0 : x ≠ 0) : ∀ L, k < L → chkL m n f L = x
  | 0, h => absurd h (Nat.not_lt_zero k)
  | L + 1, hl => by
    have hz : ∀ L, L ≤ k → chkL m n f L = 0 := by
      intro L
      induction L with
      | zero => intro _; rfl
      | succ L ih => intro hL; rw [chkL, if_pos (ih (by omega))]; exact h L (by omega)
    rw [chkL]
    rcases Nat.lt_or_ge k L with h1 | h1
    · rw [chkL_hit h hx h0 L h1, if_neg h0]
    · obtain rfl : k = L := by omega
      rw [if_pos (hz k (Nat.le_refl k)), hx]
theorem chkL_zero {m : Nat} {n : Nat → Nat} {f : Nat → Nat → Nat} : ∀ L, (∀ j, j < L → chk m (n j) (f j) = 0) → chkL m n f L = 0
  | 0, _ => rfl
  | L + 1, h => by rw [chkL, if_pos (chkL_zero L fun j hj => h j (by omega))]; exact h L (by omega)

/-- the polynomials of a slice of slices -/
def Ps (w : World) (lo hi L : Nat) (A : Nat → Option Addr) (n : Nat → Nat) (f : Nat → Nat → Nat) : Prop := ∀ i, i < L → Sq .u32 w lo hi (A i) (n i) (f i)

set_option maxHeartbeats 1000000 in
theorem validL_any (m b L : Nat) (A : Nat → Option Addr) (n c : Nat → Nat) (f : Nat → Nat → Nat) (w : World) (lo hi : Nat) (hc : Cs w b L A n c) (h : Ps w lo hi L A n f) (hn : ∀ i, i < L → n i ≤ 9223372036854775807) (hL : L ≤ 8) (hL0 : 0 < L) :
    Calls Try.prog 52 #[.int .u32 m, .slice (some ⟨b, 0, none⟩) L L] w (RetV w (.int .i64 (chkL m n f L))) := by
  by_cases hm1 : m < 2
  · rw [chkL_hit (k := 0) (x := 2) (fun j hj => absurd hj (Nat.not_lt_zero j)) (chk_m (.inl hm1)) (by omega) L hL0]
    go_enter Try.func52, Try.ntmps52
    go_wp2
    go_ret
    exact ⟨rfl, Below.refl _ _⟩
  by_cases hm2 : 2147483647 < m
  · rw [chkL_hit (k := 0) (x := 2) (fun j hj => absurd hj (Nat.not_lt_zero j)) (chk_m (.inr hm2)) (by omega) L hL0]
    go_enter Try.func52, Try.ntmps52
    go_wp2
    go_ret
    exact ⟨rfl, Below.refl _ _⟩
  go_enter Try.func52, Try.ntmps52
  go_wp2
  go_loop [18] (fun i => ∃ k : Nat, k ≤ L ∧ i = .int .i64 k ∧ (∀ j, j < k → chk m (n j) (f j) = 0)) (fun i => L - (intOf i).toNat)
  case atStart => exact ⟨0, Nat.zero_le _, rfl, fun j hj => absurd hj (Nat.not_lt_zero j)⟩
  case round =>
    obtain ⟨k, hk, rfl, hle⟩ := hrel
    have HL := Lib.hid hle
    clear hle
    by_cases hkL : k < L
    · have hck := hc k hkL
      have hfk := h k hkL
      have hnk := hn k hkL
      obtain ⟨B, hB⟩ : ∃ B, A k = B := ⟨_, rfl⟩
      obtain ⟨N, hN⟩ : ∃ N, n k = N := ⟨_, rfl⟩
      obtain ⟨C, hC⟩ : ∃ C, c k = C := ⟨_, rfl⟩
      obtain ⟨g, hg⟩ : ∃ g, f k = g := ⟨_, rfl⟩
      rw [hB, hN, hC] at hck
      rw [hB, hN, hg] at hfk
      rw [hN] at hnk
      have HN := Lib.hid (And.intro hN hg)
      clear hB hN hC hg hc h hn
      -- what this polynomial comes to, for the way out
      have hit : ∀ x, chk m N g = x → x ≠ 0 → chkL m n f L = x := fun x h1 h2 => chkL_hit HL.out (by rw [HN.out.1, HN.out.2]; exact h1) h2 L hkL
      have Hit := Lib.hid hit
      clear hit
      by_cases hl : 256 < N
      · go_wp2
        go_ret
        exact ⟨by rw [Hit.out 3 (chk_long (by omega) (by omega) hl) (by omega)]; rfl, Below.refl _ _⟩
      by_cases hn0 : 0 < N
      · obtain ⟨g0, off, rfl, _, _, hcell⟩ := hfk.2 hn0
        have hc1 := hcell (N - 1) (by omega)
        obtain ⟨x, hx⟩ : ∃ x, g (N - 1) = x := ⟨_, rfl⟩
        rw [hx] at hc1
        have HX := Lib.hid hx
        have HC := Lib.hid hcell
        have HK := Lib.hid hfk
        clear hx hcell hfk
        have hkz : ((N : Int) - 1).toNat = N - 1 := by omega
        by_cases hx0 : x = 0
        · subst hx0
          go_wp2
          go_ret
          exact ⟨by rw [Hit.out 2 (chk_last (by omega) (by omega) (by omega) hn0 HX.out) (by omega)]; rfl, Below.refl _ _⟩
        · have hxz : ((x : Int) == 0) = false := by simp; omega
          go_wp2
          clear hc1 hxz hkz
          go_loop [39] (fun i => ∃ t : Nat, t ≤ N ∧ i = .int .i64 t ∧ (∀ j, j < t → g j < m)) (fun i => N - (intOf i).toNat)
          case atStart => exact ⟨0, Nat.zero_le _, rfl, fun j hj => absurd hj (Nat.not_lt_zero j)⟩
          case round =>
            obtain ⟨t, ht, rfl, hlt⟩ := hrel
            have HT := Lib.hid hlt
            clear hlt
            by_cases htN : t < N
            · have hc2 := HC.out t htN
              obtain ⟨y, hy⟩ : ∃ y, g t = y := ⟨_, rfl⟩
              rw [hy] at hc2
              have HY := Lib.hid hy
              clear hy
              by_cases hym : m ≤ y
              · go_wp2
                go_ret
                exact ⟨by rw [Hit.out 2 (chk_big (by omega) (by omega) (by omega) htN (by rw [HY.out]; exact hym)) (by omega)]; rfl, Below.refl _ _⟩
              · go_wp2
                go_round
                case rel =>
                  refine ⟨t + 1, by omega, by go_num, fun j hj => ?_⟩
                  rcases Nat.lt_or_ge j t with h | h
                  · exact HT.out j h
                  · rw [show j = t from by omega, HY.out]; omega
                case measure => simp [intOf]; omega
            · go_wp2
              go_round
              case rel =>
                refine ⟨k + 1, by omega, by go_num, fun j hj => ?_⟩
                rcases Nat.lt_or_ge j k with h | h
                · exact HL.out j h
                · rw [show j = k from by omega, HN.out.1, HN.out.2]
                  exact chk_ok (by omega) (by omega) (by omega) (fun i hi => HT.out i (by omega)) fun _ => by rw [HX.out]; exact hx0
              case measure => simp [intOf]; omega
      · clear hfk
        go_wp2
        go_loop [39] (fun i => i = .int .i64 0) (fun i => N - (intOf i).toNat)
        case atStart => rfl
        case round =>
          obtain rfl := hrel
          go_wp2
          go_round
          case rel =>
            refine ⟨k + 1, by omega, by go_num, fun j hj => ?_⟩
            rcases Nat.lt_or_ge j k with h | h
            · exact HL.out j h
            · rw [show j = k from by omega, HN.out.1, HN.out.2]
              exact chk_ok (by omega) (by omega) (by omega) (fun i hi => by omega) fun h => absurd h hn0
          case measure => simp [intOf]; omega
    · clear h hn hc
      go_wp2
      go_ret
      exact ⟨by rw [chkL_zero L fun j hj => HL.out j (by omega)]; rfl, Below.refl _ _⟩

theorem chkL_two {m n1 n2 : Nat} {f1 f2 : Nat → Nat} : chkL m (two n1 n2) (two f1 f2) 2 = chk2 m n1 f1 n2 f2 := by
  show (if (if (0 : Nat) = 0 then chk m n1 f1 else 0) = 0 then chk m n2 f2 else (if (0 : Nat) = 0 then chk m n1 f1 else 0)) = _
  rw [if_pos rfl]
  rfl

theorem valid2_any (m b n nb ca cb : Nat) (A B : Option Addr) (f g : Nat → Nat) (w : World) (lo hi : Nat) (h0 : w.cell? ⟨b, 0, none⟩ = some (.slice A n ca)) (h1 : w.cell? ⟨b, 1, none⟩ = some (.slice B nb cb)) (hf : Sq .u32 w lo hi A n f) (hg : Sq .u32 w lo hi B nb g)
    (hn : n ≤ 9223372036854775807) (hnb : nb ≤ 9223372036854775807) :
    Calls Try.prog 52 #[.int .u32 m, .slice (some ⟨b, 0, none⟩) 2 2] w (RetV w (.int .i64 (chk2 m n f nb g))) := by
  have h := validL_any m b 2 (two A B) (two n nb) (two ca cb) (two f g) w lo hi (Cs.two_ h0 h1) (fun i hi => by match i, hi with | 0, _ => exact hf | 1, _ => exact hg) (fun i hi => by match i, hi with | 0, _ => exact hn | 1, _ => exact hnb) (by omega) (by omega)
  rw [chkL_two] at h
  exact h
theorem valid1_any (m b n ca : Nat) (A : Option Addr) (f : Nat → Nat) (w : World) (lo hi : Nat) (h0 : w.cell? ⟨b, 0, none⟩ = some (.slice A n ca)) (hf : Sq .u32 w lo hi A n f) (hn : n ≤ 9223372036854775807) :
    Calls Try.prog 52 #[.int .u32 m, .slice (some ⟨b, 0, none⟩) 1 1] w (RetV w (.int .i64 (chk m n f))) :=
  validL_any m b 1 (fun _ => A) (fun _ => n) (fun _ => ca) (fun _ => f) w lo hi (Cs.one_ h0) (fun _ _ => hf) (fun _ _ => hn) (by omega) (by omega)
end Go.Proofs.Ytkklacgoeopekaa

namespace Go.Proofs.Ytkklacgoeopekaa
open Go.RowKit

theorem retSl_nil {w w' : World} {F : Nat → Nat} {N : Nat} (h : ∀ j, F j = 0) (hb : Below w.heap.size w w') : RetSl w (tl F N) F (.returned (.slice none 0 0)) w' :=
  ⟨none, 0, by rw [tl_zeros h], by rw [tl_zeros h]; exact Nat.le_refl _, by rw [tl_zeros h]; exact ⟨fun j _ => h j, fun h => absurd h (Nat.lt_irrefl 0)⟩, hb⟩

set_option maxHeartbeats 1000000 in
theorem product_any (m n nb ca cb : Nat) (A B : Option Addr) (a b : Nat → Nat) (w : World) (lo hi : Nat) (ha : Sq .u32 w lo hi A n a) (hb : Sq .u32 w lo hi B nb b)
    (hm : 0 < m) (hm2 : m ≤ 2147483647) (haa : ∀ j, a j < m) (hbb : ∀ j, b j < m) (hn : n ≤ 1000) (hnb : nb ≤ 1000) (hhi : hi ≤ w.heap.size) :
    Calls Try.prog 56 #[.int .u32 m, .slice A n ca, .slice B nb cb] w (RetSl w (tl (mulF m a b) (n + nb)) (mulF m a b)) := by
  by_cases hn0 : n = 0
  · subst hn0
    have HZ := Lib.hid (mulF_zero (m := m) (b := b) (.inl fun j => ha.1 j (Nat.zero_le j)))
    clear ha hb haa hbb
    go_enter Try.func56, Try.ntmps56
    go_wp2
    go_ret
    exact retSl_nil HZ.out (Below.refl _ _)
  by_cases hnb0 : nb = 0
  · subst hnb0
    have HZ := Lib.hid (mulF_zero (m := m) (a := a) (.inr fun j => hb.1 j (Nat.zero_le j)))
    have hnz : ((n : Int) == 0) = false := by simp; omega
    clear ha hb haa hbb
    go_enter Try.func56, Try.ntmps56
    go_wp2
    go_ret
    exact retSl_nil HZ.out (Below.refl _ _)
  have hnz : ((n : Int) == 0) = false := by simp; omega
  have hnbz : ((nb : Int) == 0) = false := by simp; omega
  obtain ⟨N, hN⟩ : ∃ N, n + nb = N + 1 := ⟨n + nb - 1, by omega⟩
  have hN1 : (n : Int) + (nb : Int) - 1 = (N : Int) := by omega
  have hN2 : N ≤ 2000 := by omega
  have HN := Lib.hid hN
  have HN1 := Lib.hid hN1
  clear hN hN1
  go_enter Try.func56, Try.ntmps56
  go_wp2_with (at_make; refine wpl_make rfl _ _ _ rfl e32 .i64 .i64 _ _ N rfl rfl HN1.out HN1.out (by omega) (by unfold maxLen; omega) ?_; intro w1 hr1 hb1 hs1)
  go_loopw [29] (fun i wr => ∃ k : Nat, k ≤ n ∧ i = .int .i64 k ∧ wr.rowIs w.heap.size 22 N (ku .u32 fun j => pS a b k j % m) ∧ Below w.heap.size w wr ∧ w.heap.size < wr.heap.size) (fun i _ => n - (intOf i).toNat)
  case atStart =>
    refine ⟨0, Nat.zero_le _, rfl, hr1.congr fun j _ => ?_, hb1, hs1⟩
    simp [ku, pS, sumN]
  case round =>
    clear hr1 hb1 hs1
    obtain ⟨k, hk, rfl, hr, hbel, hsz⟩ := hrel
    by_cases hkn : k < n
    · obtain ⟨g, off, rfl, _, hg, hcell⟩ := ha.2 (by omega)
      have hc1 := (hbel.cell (p := ⟨g, off + k, none⟩) (show g < w.heap.size by omega)).trans (hcell k hkn)
      obtain ⟨x, hx⟩ : ∃ x, a k = x := ⟨_, rfl⟩
      have hxm := haa k
      rw [hx] at hc1 hxm
      have HX := Lib.hid hx
      have HR := Lib.hid hr
      clear hx hcell hr ha
      go_wp2
      clear hc1
      go_loopw [36] (fun i ws => ∃ t : Nat, t ≤ nb ∧ i = .int .i64 t ∧ ws.rowIs w.heap.size 22 N (ku .u32 fun j => if k ≤ j ∧ j < k + t then pS a b (k + 1) j % m else pS a b k j % m) ∧ Below w.heap.size w ws ∧ w.heap.size < ws.heap.size) (fun i _ => nb - (intOf i).toNat)
      case atStart =>
        refine ⟨0, Nat.zero_le _, rfl, HR.out.congr fun j _ => ?_, hbel, hsz⟩
        simp only [ku]
        rw [if_neg (by omega)]
      case round =>
        clear HR hbel hsz
        obtain ⟨t, ht, rfl, hr, hbel, hsz⟩ := hrel
        by_cases htn : t < nb
        · obtain ⟨g2, off2, rfl, _, hg2, hcell2⟩ := hb.2 (by omega)
          have hc1 := (hbel.cell (p := ⟨g2, off2 + t, none⟩) (show g2 < w.heap.size by omega)).trans (hcell2 t htn)
          obtain ⟨y, hy⟩ : ∃ y, b t = y := ⟨_, rfl⟩
          have hym := hbb t
          rw [hy] at hc1 hym
          have hN0 := HN.out
          have hc2 := hr.cell (show k + t < N by omega)
          simp only [ku] at hc2
          rw [if_neg (show ¬(k ≤ k + t ∧ k + t < k + t) by omega)] at hc2
          obtain ⟨z, hz⟩ : ∃ z, pS a b k (k + t) % m = z := ⟨_, rfl⟩
          have hzm : pS a b k (k + t) % m < m := Nat.mod_lt _ hm
          rw [hz] at hc2 hzm
          have hf2 := hr.frozen (k + t)
          have hxy2 := mul_lt_int hxm hym hm2
          have hxy3 : 0 ≤ (x : Int) * (y : Int) := Int.mul_nonneg (Int.natCast_nonneg _) (Int.natCast_nonneg _)
          have hd1 : 0 ≤ ((z : Int) + (x : Int) * (y : Int)) % (m : Int) := Int.emod_nonneg _ (by omega)
          have hd2 : ((z : Int) + (x : Int) * (y : Int)) % (m : Int) < (m : Int) := Int.emod_lt_of_pos _ (by omega)
          have hNk : k + t < N := by omega
          have HY := Lib.hid hy
          have HZ := Lib.hid hz
          have HR := Lib.hid hr
          clear hy hz hcell2 hb hr hN0
          go_wp2
          go_roundw
          case rel =>
            refine ⟨t + 1, by omega, by go_num, ?_, hbel.setCell (Nat.le_refl _) _, by simpa using hsz⟩
            have e1 : ((z : Int) + (x : Int) * (y : Int)) % (m : Int) = (((z + x * y) % m : Nat) : Int) := by simp
            rw [e1]
            refine (rowIs_set_ku HR.out (k + t) ((z + x * y) % m)).congr fun j _ => ?_
            simp only [ku]
            congr 2
            by_cases h1 : j = k + t
            · subst h1
              rw [if_pos rfl, if_pos (by omega), pS_succ_hit (Nat.le_add_right k t), Nat.add_sub_cancel_left, HX.out, HY.out, ← HZ.out, Nat.mod_add_mod]
            · rw [if_neg h1]
              by_cases h2 : k ≤ j ∧ j < k + t
              · rw [if_pos h2, if_pos (by omega)]
              · rw [if_neg h2, if_neg (by omega)]
          case measure => simp [intOf]; omega
        · have hrow : wr.rowIs w.heap.size 22 N (ku .u32 fun j => pS a b (k + 1) j % m) := by
            refine hr.congr fun j _ => ?_
            simp only [ku]
            congr 2
            split
            · rfl
            · rw [pS_succ_miss]
              rcases Nat.lt_or_ge j k with h | h
              · exact .inl h
              · exact .inr (hb.1 _ (by omega))
          have HR := Lib.hid hrow
          clear hr hrow hb
          go_wp2
          go_roundw
          case rel => exact ⟨k + 1, by omega, by go_num, HR.out, hbel, hsz⟩
          case measure => simp [intOf]; omega
    · obtain rfl : k = n := by omega
      have hN0 := HN.out
      have hsq : Sq .u32 wr w.heap.size wr.heap.size (some ⟨w.heap.size, 0, none⟩) N (mulF m a b) := by
        refine Sq.of_row hr (Nat.le_refl _) (Nat.le_refl _) hsz (fun j hj => mulF_ext ha.1 hb.1 j (by omega)) fun j hj => ?_
        unfold mulF
        rw [pS_full ha.1]
      have HS := Lib.hid hsq
      have hT : tl (mulF m a b) N = tl (mulF m a b) (k + nb) := tl_ext (fun j hj => mulF_ext ha.1 hb.1 j (by omega)) (fun j hj => mulF_ext ha.1 hb.1 j (by omega))
      have HT := Lib.hid hT
      have HE := Lib.hid (fun j (hj : k + nb ≤ j + 1) => mulF_ext (m := m) ha.1 hb.1 j hj)
      clear hsq hr ha hb haa hbb hT hN0
      go_wp2_with (go_at_call 68; refine (trim_any _ _ _ _ _ _ _ HS.out (Nat.le_refl _) (by omega)).mono ?_; rintro e w' ⟨rfl, rfl⟩)
      go_ret
      have hT2 := tl_le (mulF m a b) N
      exact ⟨_, _, ret_slice HT.out, by have := HT.out; omega, sq_n (sq_tl HS.out) HT.out, hbel⟩
end Go.Proofs.Ytkklacgoeopekaa
