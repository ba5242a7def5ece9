/- The contracts of the reference's minus and times. -/
/- The contract of the reference's Inverse. -/
/- The contracts of poly.unit and of the reference's leads. -/
/- The contract of poly.divide. -/
/- The contract of the reference's split: the same quotient and rest as divide, of a list that ends in no zero. -/
/- The contracts of poly.DivMod and of the reference's DivMod: one and the same. -/
/- The contract of the reference's DivMod; of poly.Mul. -/
/- Written-out lists in memory. -/
import Derived.Test.YtkklacgoeopekaaProduct
import Derived.Test.YtkklacgoeopekaaRet
namespace Go.Proofs.Ytkklacgoeopekaa
open Go.RowKit

def cutF (k : Nat) (F : Nat → Nat) : Nat → Nat := fun j => if j < k then F j else 0
theorem cutF_out {k : Nat} {F : Nat → Nat} {j : Nat} (h : k ≤ j) : cutF k F j = 0 := if_neg (by omega)
theorem cutF_lt {k : Nat} {F : Nat → Nat} {j : Nat} (h : j < k) : cutF (k + 1) F j = cutF k F j := by
  unfold cutF
  rw [if_pos h, if_pos (by omega)]
theorem cutF_add {k : Nat} {F : Nat → Nat} (j : Nat) : cutF (k + 1) F (k + j) = oneF (F k) j := by
  unfold cutF oneF
  by_cases h : j = 0
  · subst h
    rw [if_pos (by omega), if_pos rfl, Nat.add_zero]
  · rw [if_neg (by omega), if_neg h]
theorem cutF_all {N : Nat} {F : Nat → Nat} (h : ∀ j, N ≤ j → F j = 0) (j : Nat) : cutF N F j = F j := by
  unfold cutF
  split
  · rfl
  · exact (h j (by omega)).symm

theorem subF_val {m x y : Nat} (hy : y < m) : ((x : Int) + (m : Int) - (y : Int)) % (m : Int) = (((x + m - y) % m : Nat) : Int) := by
  rw [Int.natCast_emod, Int.ofNat_sub (by omega)]
  simp
theorem subF_out {m n nb : Nat} {a b : Nat → Nat} (ha : ∀ j, n ≤ j → a j = 0) (hb : ∀ j, nb ≤ j → b j = 0) (j : Nat) (h1 : n ≤ j) (h2 : nb ≤ j) : subF m a b j = 0 := by
  unfold subF
  rw [ha j h1, hb j h2]
  simp
theorem subF_lt {m : Nat} (hm : 0 < m) (a b : Nat → Nat) (j : Nat) : subF m a b j < m := Nat.mod_lt _ hm

def TimesIn (m k : Nat) (a b : Nat → Nat) (s i : Value) : Prop := ∃ t : Nat, t ≤ k + 1 ∧ i = .int .i64 t ∧ s = .int .u64 ((sumN (fun t => a t * b (k - t)) t % m : Nat) : Int)

set_option maxHeartbeats 1000000 in
theorem times_any (m n nb ca cb : Nat) (A B : Option Addr) (a b : Nat → Nat) (w : World) (lo hi lo2 hi2 : Nat) (ha : Sq .u32 w lo hi A n a) (hb : Sq .u32 w lo2 hi2 B nb b)
    (hm : 0 < m) (hm2 : m ≤ 2147483647) (haa : ∀ j, a j < m) (hbb : ∀ j, b j < m) (hn : n ≤ 2000) (hnb : nb ≤ 2000) (hhi : hi ≤ w.heap.size) (hhi2 : hi2 ≤ w.heap.size) :
    Calls Try.prog 39 #[.int .u32 m, .slice A n ca, .slice B nb cb] w (RetSl w (tl (mulF m a b) (n + nb)) (mulF m a b)) := by
  obtain ⟨N, hN⟩ : ∃ N, N = n + nb := ⟨_, rfl⟩
  rw [← hN]
  have hN1 : N ≤ n + nb := by omega
  have hN2 : n + nb ≤ N := by omega
  have HO := Lib.hid (fun j (hj : N ≤ j) => mulF_ext (m := m) ha.1 hb.1 j (by omega))
  clear hN
  go_enter Try.func39, Try.ntmps39
  go_wp2
  go_loopw [7, 8] (fun o i wr => ∃ (k : Nat) (A' : Option Addr) (c' : Nat), k ≤ N ∧ i = .int .i64 k ∧ o = .slice A' k c' ∧ Own .u32 wr w.heap.size 22 A' k c' (cutF k (mulF m a b)) ∧ Below w.heap.size w wr) (fun _ i _ => N - (intOf i).toNat)
  case atStart => exact ⟨0, none, 0, Nat.zero_le _, rfl, rfl, Own.congr (Own.nil _ _ _ _) (fun j => (cutF_out (Nat.zero_le _)).symm), Below.refl _ _⟩
  case round =>
    obtain ⟨k, A', c', hk, rfl, rfl, hown, hbel⟩ := hrel
    by_cases hkN : k < N
    · have HO1 := Lib.hid hown
      clear hown
      have hdec : decide ((k : Int) < (n : Int) + (nb : Int)) = true := decide_eq_true (by omega)
      go_wp2
      clear hdec
      go_loop [9, 10] (TimesIn m k a b) (fun _ i => k + 1 - (intOf i).toNat)
      case atStart => exact ⟨0, Nat.zero_le _, rfl, by simp [sumN]⟩
      case round =>
        obtain ⟨t, ht, rfl, rfl⟩ := hrel
        obtain ⟨z, hz⟩ : ∃ z, sumN (fun t => a t * b (k - t)) t % m = z := ⟨_, rfl⟩
        have hzm : sumN (fun t => a t * b (k - t)) t % m < m := Nat.mod_lt _ hm
        rw [hz] at hzm
        rw [hz]
        by_cases htk : t ≤ k
        · have HA := Lib.hid (at_any A n ca a t wr lo hi (ha.below hbel hhi) (by omega) (by omega) (fun j => by have := haa j; omega))
          have HB := Lib.hid (at_any B nb cb b ((k : Int) - (t : Int)) wr lo2 hi2 (hb.below hbel hhi2) (by omega) (by omega) (fun j => by have := hbb j; omega))
          have hxm := haa t
          have hym := hbb (k - t)
          obtain ⟨x, hx⟩ : ∃ x, a t = x := ⟨_, rfl⟩
          obtain ⟨y, hy⟩ : ∃ y, b (k - t) = y := ⟨_, rfl⟩
          rw [Int.toNat_natCast, hx] at HA
          rw [show ((k : Int) - (t : Int)).toNat = k - t from by omega, hy] at HB
          rw [hx] at hxm
          rw [hy] at hym
          have hxy2 := mul_lt_int hxm hym hm2
          have hxy3 : 0 ≤ (x : Int) * (y : Int) := Int.mul_nonneg (Int.natCast_nonneg _) (Int.natCast_nonneg _)
          have hd1 : 0 ≤ ((z : Int) + (x : Int) * (y : Int)) % (m : Int) := Int.emod_nonneg _ (by omega)
          have hd2 : ((z : Int) + (x : Int) * (y : Int)) % (m : Int) < (m : Int) := Int.emod_lt_of_pos _ (by omega)
          have hS : sumN (fun t => a t * b (k - t)) (t + 1) % m = (z + x * y) % m := by
            rw [sumN, ← hz, ← hx, ← hy, Nat.mod_add_mod]
          have HS := Lib.hid hS
          clear hx hy hz hS ha hb haa hbb
          go_wp2_with (first
            | (go_at_call_of 62 A; refine HA.out.mono ?_; rintro e w' ⟨rfl, rfl⟩)
            | (go_at_call_of 62 B; refine HB.out.mono ?_; rintro e w' ⟨rfl, rfl⟩))
          go_round
          case rel =>
            refine ⟨t + 1, by omega, by go_num, ?_⟩
            rw [HS.out]
            simp
          case measure => simp [intOf]; omega
        · obtain rfl : t = k + 1 := by omega
          have hV : Value.int .u32 (z : Int) = .int .u32 ((mulF m a b k : Nat) : Int) := by rw [← hz]; rfl
          have HV := Lib.hid hV
          have hsz := hbel.size
          clear hz hV ha hb haa hbb
          go_wp2_with (at_builtin; refine wpl_append rfl _ _ _ rfl e32 rfl (HO1.out.alloc _) rfl (sq_one (x := mulF m a b k) (lo := 0) (hi := wr.heap.size + 1) HV.out (Nat.zero_le _) (Nat.lt_succ_self _)) (cutF (k + 1) (mulF m a b)) (fun j hj => cutF_lt hj) cutF_add (by unfold maxLen; omega) (by omega) (by simp; omega) ?_; intro A2 c2 w2 hown2 hg2 hb2 hat2)
          go_roundw
          case rel => exact ⟨k + 1, A2, c2, by omega, by go_num, rfl, hown2, (hbel.alloc hsz _).trans hb2⟩
          case measure => simp [intOf]; omega
    · obtain rfl : k = N := by omega
      have hcut : cutF k (mulF m a b) = mulF m a b := funext (cutF_all HO.out)
      rw [hcut] at hown
      have HT := Lib.hid (rtrim_any A' k c' (mulF m a b) wr _ _ (hown.sq (Nat.le_refl _)) hown.le (by omega))
      have hsz := hbel.size
      clear hcut hown ha hb haa hbb
      go_wp2_with (go_at_call 63; refine HT.out.mono ?_; rintro e w' ⟨A3, c3, rfl, hle3, hsq3, hb3⟩)
      go_ret
      exact ⟨A3, c3, rfl, hle3, hsq3.wide hsz (Nat.le_refl _), hbel.trans (hb3.mono hsz)⟩
end Go.Proofs.Ytkklacgoeopekaa

namespace Go.Proofs.Ytkklacgoeopekaa
open Go.RowKit

end Go.Proofs.Ytkklacgoeopekaa

namespace Go.Proofs.Ytkklacgoeopekaa
open Go.RowKit

/-- the inverse of the last element, and whether there is one -/
def unitF (m n : Nat) (f : Nat → Nat) : Nat × Bool := if n = 0 then (0, false) else if Nat.gcd m (f (n - 1)) = 1 then (invN (f (n - 1)) m, true) else (0, false)

theorem unitF_nil {m : Nat} {f : Nat → Nat} : unitF m 0 f = (0, false) := rfl
theorem unitF_yes {m n : Nat} {f : Nat → Nat} (hn : 0 < n) (h : Nat.gcd m (f (n - 1)) = 1) : unitF m n f = (invN (f (n - 1)) m, true) := by
  unfold unitF
  rw [if_neg (by omega), if_pos h]
theorem unitF_no {m n : Nat} {f : Nat → Nat} (hn : 0 < n) (h : Nat.gcd m (f (n - 1)) ≠ 1) : unitF m n f = (0, false) := by
  unfold unitF
  rw [if_neg (by omega), if_neg h]
/-- where there is one: what it is -/
theorem unitF_true {m n iv : Nat} {f : Nat → Nat} (h : unitF m n f = (iv, true)) (hm : 2 ≤ m) (hf : f (n - 1) < m) : 0 < n ∧ iv < m ∧ iv * f (n - 1) % m = 1 % m := by
  unfold unitF at h
  split at h
  · cases h
  · split at h
    · rename_i h1 h2
      injection h with h3 _
      subst h3
      exact ⟨by omega, (invN_spec hf hm h2).1, (invN_spec hf hm h2).2⟩
    · cases h

set_option maxHeartbeats 400000 in
theorem unit_any (m n c : Nat) (A : Option Addr) (f : Nat → Nat) (w : World) (lo hi : Nat) (h : Sq .u32 w lo hi A n f) (hn : n ≤ 1000000) (hm : 2 ≤ m) (hm2 : m ≤ 2147483647) (hf : f (n - 1) < m) :
    Calls Try.prog 54 #[.int .u32 m, .slice A n c] w (RetV w (.tuple #[.int .u32 ((unitF m n f).1 : Nat), .bool (unitF m n f).2])) := by
  by_cases hn0 : n = 0
  · subst hn0
    rw [unitF_nil]
    go_enter Try.func54, Try.ntmps54
    go_wp2
    go_ret2
    exact ⟨rfl, Below.refl _ _⟩
  obtain ⟨b, off, rfl, _, _, hcell⟩ := h.2 (by omega)
  have hc1 := hcell (n - 1) (by omega)
  have hnz : ((n : Int) == 0) = false := by simp; omega
  have hkz : ((n : Int) - 1).toNat = n - 1 := by omega
  have hI := inverse_any (f (n - 1)) m
  unfold InvErr at hI
  by_cases hg : Nat.gcd m (f (n - 1)) = 1
  · rw [unitF_yes (by omega) hg]
    have hI2 := fun w => hI w
    rw [invE_ok (fits_one.2 ⟨hf, hm, hm2⟩) hg] at hI
    obtain ⟨x, hx⟩ : ∃ x, f (n - 1) = x := ⟨_, rfl⟩
    rw [hx] at hc1 hI ⊢
    have HI := Lib.hid hI
    clear hI hI2 hx hcell h hg hf
    go_enter Try.func54, Try.ntmps54
    go_wp2_with (go_at_call 37; refine (HI.out _).mono ?_; rintro e w' ⟨hbel, rfl⟩)
    go_ret2
    exact ⟨rfl, hbel⟩
  · rw [unitF_no (by omega) hg]
    rw [invE_none (fits_one.2 ⟨hf, hm, hm2⟩) hg] at hI
    obtain ⟨x, hx⟩ : ∃ x, f (n - 1) = x := ⟨_, rfl⟩
    rw [hx] at hc1 hI
    have HI := Lib.hid hI
    clear hI hx hcell h hg hf
    go_enter Try.func54, Try.ntmps54
    go_wp2_with (go_at_call 37; refine (HI.out _).mono ?_; rintro e w' ⟨hbel, rfl⟩)
    go_ret2
    exact ⟨rfl, hbel⟩

theorem inv_yes {a m : Nat} {w : World} {f : Nat} {args : Array Value} (h : Calls Try.prog f args w (InvBool a m w)) (hg : Nat.gcd m a = 1) : Calls Try.prog f args w (RetP w (.tuple #[.int .u32 (invN a m : Nat), .bool true])) :=
  h.mono fun _ _ ⟨h1, h2⟩ => h2.elim (fun h => ⟨h.2, h1⟩) fun h => absurd hg h.1
theorem inv_no {a m : Nat} {w : World} {f : Nat} {args : Array Value} (h : Calls Try.prog f args w (InvBool a m w)) (hg : Nat.gcd m a ≠ 1) : Calls Try.prog f args w (RetP w (.tuple #[.int .u32 0, .bool false])) :=
  h.mono fun _ _ ⟨h1, h2⟩ => h2.elim (fun h => absurd h.1 hg) fun h => ⟨h.2, h1⟩

end Go.Proofs.Ytkklacgoeopekaa

namespace Go.Proofs.Ytkklacgoeopekaa
open Go.RowKit

theorem Own.set {k : IntKind} {w : World} {base e n c g : Nat} {f : Nat → Nat} (h : Own k w base e (some ⟨g, 0, none⟩) n c f) {j : Nat} (hj : j < n) (x : Nat) :
    Own k (w.setCell ⟨g, j, none⟩ (.int k (x : Int))) base e (some ⟨g, 0, none⟩) n c (fun i => if i = j then x else f i) := by
  have hx : ∀ i, n ≤ i → (if i = j then x else f i) = 0 := fun i hi => by rw [if_neg (by omega)]; exact h.1 i hi
  rcases h.2.2 with ⟨hv, _⟩ | ⟨g', cap, cur, hv, hb, hh, hnc, hm, hs, ht⟩
  · cases hv
  · injection hv with h1 h2 h3
    injection h1 with h1
    injection h1 with h1
    subst h1 h3
    refine ⟨hx, by simp, .inr ⟨g, c, cur.setIfInBounds j (.int k (x : Int)), rfl, hb, ?_, hnc, hm, by simpa using hs, ?_⟩⟩
    · simp [World.setCell, Array.getElem?_modify, hh]
    · apply List.ext_getElem?
      intro i
      by_cases hi : i < n
      · have e1 : cur.toList[i]? = (cur.toList.take (n * 1))[i]? := by rw [List.getElem?_take_of_lt (by omega)]
        rw [List.getElem?_take_of_lt (by omega), Array.getElem?_toList, Array.getElem?_setIfInBounds, List.getElem?_map, List.getElem?_range hi]
        by_cases hij : i = j
        · subst hij
          simp [ku]
          omega
        · rw [if_neg (fun h => hij h.symm), ← Array.getElem?_toList, e1, ht]
          simp [hi, ku, hij]
      · rw [List.getElem?_eq_none (by simp; omega), List.getElem?_eq_none (by simp; omega)]

/-- two new lists -/
def RetSl2 (w : World) (n1 : Nat) (F1 : Nat → Nat) (n2 : Nat) (F2 : Nat → Nat) (e : Ending) (w' : World) : Prop :=
  ∃ A1 c1 A2 c2, e = .returned (.tuple #[.slice A1 n1 c1, .slice A2 n2 c2]) ∧ n1 ≤ c1 ∧ n2 ≤ c2 ∧ Sq .u32 w' w.heap.size w'.heap.size A1 n1 F1 ∧ Sq .u32 w' w.heap.size w'.heap.size A2 n2 F2 ∧ Below w.heap.size w w'

/-- how many steps a division takes -/
def dL (n nb : Nat) : Nat := n + 1 - nb

theorem dC_val {m x iv c : Nat} (_hm : 0 < m) (hc : c = x * iv % m) : ((x : Int) * (iv : Int)) % (m : Int) = (c : Int) := by subst hc; simp

/-- what holds at the head of the outer loop -/
def DivOut (m nb iv n q : Nat) (a b : Nat → Nat) (w : World) (g c : Nat) (i : Value) (wr : World) : Prop :=
  ∃ (t : Nat) (R : Nat → Nat), t ≤ dL n nb ∧ i = .int .i64 ((t : Int) - 1) ∧ Own .u32 wr w.heap.size 22 (some ⟨g, 0, none⟩) n c R ∧ wr.rowIs q 22 (dL n nb) (ku .u32 fun j => if t ≤ j then dQ m nb b iv (dL n nb) a j else 0) ∧
    dR m nb b iv t R = dR m nb b iv (dL n nb) a ∧ (∀ j, j < t → dQ m nb b iv t R j = dQ m nb b iv (dL n nb) a j) ∧ (∀ j, R j < m) ∧ Below w.heap.size w wr ∧ q < wr.heap.size

/-- what holds at the head of the inner loop -/
def DivIn (m nb iv n q : Nat) (a b : Nat → Nat) (w : World) (g c s : Nat) (R : Nat → Nat) (i : Value) (wr : World) : Prop :=
  ∃ k : Nat, k ≤ nb ∧ i = .int .i64 k ∧ Own .u32 wr w.heap.size 22 (some ⟨g, 0, none⟩) n c (fun j => if s ≤ j ∧ j < s + k then dStep m nb b iv s R j else R j) ∧
    wr.rowIs q 22 (dL n nb) (ku .u32 fun j => if s ≤ j then dQ m nb b iv (dL n nb) a j else 0) ∧ Below w.heap.size w wr ∧ q < wr.heap.size

theorem sub_mul_lt {m c y : Nat} (hc : c < m) (hy : y < m) (hm : m ≤ 2147483647) : 0 ≤ ((m : Int) - (c : Int)) * (y : Int) ∧ ((m : Int) - (c : Int)) * (y : Int) ≤ 4611686014132420609 := by
  refine ⟨Int.mul_nonneg (by omega) (by omega), ?_⟩
  have h1 := Int.mul_le_mul (show ((m : Int) - (c : Int)) ≤ 2147483647 by omega) (show (y : Int) ≤ 2147483647 by omega) (by omega) (by omega)
  omega

set_option maxHeartbeats 2000000 in
theorem divide_long (m iv n nb ca cb : Nat) (A B : Option Addr) (a b : Nat → Nat) (w : World) (lo hi : Nat) (ha : Sq .u32 w lo hi A n a) (hb : Sq .u32 w lo hi B nb b)
    (hm : 0 < m) (hm2 : m ≤ 2147483647) (hiv : iv < m) (haa : ∀ j, a j < m) (hbb : ∀ j, b j < m) (hn : n ≤ 2000) (hnb : nb ≤ 2000) (hhi : hi ≤ w.heap.size) (hnb0 : 0 < nb) (hle : nb ≤ n) :
    Calls Try.prog 55 #[.int .u32 m, .slice A n ca, .slice B nb cb, .int .u32 iv] w (RetSl2 w (tl (dQ m nb b iv (dL n nb) a) (dL n nb)) (dQ m nb b iv (dL n nb) a) (tl (dR m nb b iv (dL n nb) a) n) (dR m nb b iv (dL n nb) a)) := by
  have hL : dL n nb = n - nb + 1 := by unfold dL; omega
  have hL1 : (n : Int) - (nb : Int) + 1 = ((dL n nb : Nat) : Int) := by omega
  have hL2 : dL n nb ≤ 2000 := by omega
  have hL3 : n + 1 ≤ dL n nb + nb := by omega
  have hL4 : dL n nb + nb ≤ n + 1 := by omega
  have hL5 : 1 ≤ dL n nb := by omega
  have HL1 := Lib.hid hL1
  have hge : decide ((n : Int) - (nb : Int) ≥ 0) = true := decide_eq_true (by omega)
  clear hL hL1
  go_enter Try.func55, Try.ntmps55
  go_wp2_with (first
    | (at_builtin; refine wpl_append rfl _ _ _ rfl e32 rfl (Own.nil _ _ w.heap.size _) rfl ha a (fun j h => absurd h (Nat.not_lt_zero j)) (fun j => by rw [Nat.zero_add]) (by unfold maxLen; omega) (by omega) (Nat.le_refl _) ?_; intro A1 c1 w1 hown1 hg1 hb1 hat1; rw [Nat.zero_add] at hown1)
    | (at_make; refine wpl_make rfl _ _ _ rfl e32 .i64 .i64 _ _ (dL n nb) rfl rfl HL1.out HL1.out (by omega) (by unfold maxLen; omega) ?_; intro w2 hr2 hb2 hs2))
  obtain rfl : A1 = some ⟨w.heap.size, 0, none⟩ := by
    rcases hat1 with h | h
    · rcases hown1.cases with ⟨_, h0, _⟩ | ⟨g, h1, _⟩
      · omega
      · rw [h] at h1; cases h1
    · exact h
  have hlt1 := own_lt hown1
  have HOb := Lib.hid (fun j (hj : nb ≤ j) => hb.1 j hj)
  go_loopw [11] (DivOut m nb iv n w1.heap.size a b w w.heap.size c1) (fun i _ => (intOf i + 1).toNat)
  case atStart =>
    refine ⟨dL n nb, a, Nat.le_refl _, rfl, hown1.below hb2 (Nat.le_refl _), hr2.congr fun j hj => ?_, rfl, fun j _ => rfl, haa, hb1.trans (hb2.mono hb1.size), hs2⟩
    simp only [ku]
    rw [if_neg (by omega)]
  case round =>
    clear hown1 hr2 hb1 hb2 hs2 hg1 hat1
    obtain ⟨t, R, ht, rfl, hown, hrow, hdR, hdQ, hRm, hbel, hqs⟩ := hrel
    by_cases ht0 : 0 < t
    · obtain ⟨s, rfl⟩ : ∃ s, t = s + 1 := ⟨t - 1, by omega⟩
      have hs1 : (((s + 1 : Nat) : Int) - 1) = (s : Int) := by omega
      rw [hs1]
      clear hs1
      -- the leading element
      obtain ⟨_, _, hoc, hof⟩ : 0 < n ∧ w.heap.size < wr.heap.size ∧ (∀ j, j < n → wr.cell? ⟨w.heap.size, j, none⟩ = some (ku .u32 R j)) ∧ (∀ j, wr.frozen? ⟨w.heap.size, j, none⟩ = false) := by
        rcases hown.cases with ⟨h, _⟩ | ⟨g, h, _, h1, _, _, h2, h3⟩
        · cases h
        · injection h with h
          injection h with h
          subst h
          exact ⟨by omega, h1, h2, h3⟩
      have hc1 := hoc (s + nb - 1) (by omega)
      simp only [ku] at hc1
      have hxm := hRm (s + nb - 1)
      have hcd : dC m nb iv s R = R (s + nb - 1) * iv % m := rfl
      have hcm : dC m nb iv s R < m := Nat.mod_lt _ hm
      have hqv : dQ m nb b iv (s + 1) R s = dC m nb iv s R := by simp only [dQ, if_true]
      have hqs2 := hdQ s (by omega)
      rw [hqv] at hqs2
      obtain ⟨c, hc⟩ : ∃ c, dC m nb iv s R = c := ⟨_, rfl⟩
      obtain ⟨x, hx⟩ : ∃ x, R (s + nb - 1) = x := ⟨_, rfl⟩
      rw [hx] at hc1 hxm hcd
      rw [hc] at hcm hcd hqs2
      have e1 := dC_val hm hcd
      have hxi2 := mul_lt_int hxm hiv hm2
      have hxi3 : 0 ≤ (x : Int) * (iv : Int) := Int.mul_nonneg (Int.natCast_nonneg _) (Int.natCast_nonneg _)
      have HC := Lib.hid hc
      have HQ := Lib.hid hqs2
      have HDR := Lib.hid hdR
      have HDQ := Lib.hid hdQ
      have HRM := Lib.hid hRm
      have HOW := Lib.hid hown
      have HROW := Lib.hid hrow
      have hq1 := hrow.cell (show s < dL n nb by omega)
      simp only [ku] at hq1
      rw [if_neg (show ¬ s + 1 ≤ s by omega)] at hq1
      have hq2 := hrow.frozen s
      have hidx : ((s : Int) + (nb : Int) - 1).toNat = s + nb - 1 := by omega
      clear hx hc hqv hqs2 hcd hdR hdQ hRm hown hrow hoc hof
      go_wp2
      rw [e1]
      clear e1 hxi2 hxi3 hidx hq2 hc1
      have hrowS : (wr.setCell ⟨w1.heap.size, s, none⟩ (.int .u32 (c : Nat))).rowIs w1.heap.size 22 (dL n nb) (ku .u32 fun j => if s ≤ j then dQ m nb b iv (dL n nb) a j else 0) := by
        refine (rowIs_set_ku HROW.out s c).congr fun j _ => ?_
        simp only [ku]
        congr 2
        by_cases h1 : j = s
        · subst h1
          rw [if_pos rfl, if_pos (Nat.le_refl _), HQ.out]
        · rw [if_neg h1]
          by_cases h2 : s + 1 ≤ j
          · rw [if_pos h2, if_pos (by omega)]
          · rw [if_neg h2, if_neg (by omega)]
      have hownS : Own .u32 (wr.setCell ⟨w1.heap.size, s, none⟩ (.int .u32 (c : Nat))) w.heap.size 22 (some ⟨w.heap.size, 0, none⟩) n c1 R :=
        HOW.out.of_block fun g _ _ hg => by
          injection hg with hg
          injection hg with hg
          exact Below.heap_setCell wr _ _ g (by show g ≠ w1.heap.size; omega)
      have hbelS : Below w.heap.size w (wr.setCell ⟨w1.heap.size, s, none⟩ (.int .u32 (c : Nat))) := hbel.setCell (by show w.heap.size ≤ w1.heap.size; omega) _
      have hqsS : w1.heap.size < (wr.setCell ⟨w1.heap.size, s, none⟩ (.int .u32 (c : Nat))).heap.size := by simpa using hqs
      have HS := Lib.hid (And.intro hrowS (And.intro hownS (And.intro hbelS hqsS)))
      clear hrowS hownS hbelS hqsS hq1 HROW HOW hbel hqs
      go_loopw [57] (DivIn m nb iv n w1.heap.size a b w w.heap.size c1 s R) (fun i _ => nb - (intOf i).toNat)
      case atStart =>
        refine ⟨0, Nat.zero_le _, rfl, HS.out.2.1.congr fun j => ?_, HS.out.1, HS.out.2.2.1, HS.out.2.2.2⟩
        rw [if_neg (by omega)]
      case round =>
        clear HS
        obtain ⟨k, hk, rfl, hown, hrow, hbel, hqs⟩ := hrel
        by_cases hkn : k < nb
        · obtain ⟨g2, off2, rfl, _, hg2, hcell2⟩ := hb.2 (by omega)
          have hc1 := (hbel.cell (p := ⟨g2, off2 + k, none⟩) (show g2 < w.heap.size by omega)).trans (hcell2 k hkn)
          obtain ⟨y, hy⟩ : ∃ y, b k = y := ⟨_, rfl⟩
          have hym := hbb k
          rw [hy] at hc1 hym
          obtain ⟨hoc, hof⟩ : (∀ j, j < n → wr.cell? ⟨w.heap.size, j, none⟩ = some (ku .u32 (fun j => if s ≤ j ∧ j < s + k then dStep m nb b iv s R j else R j) j)) ∧ (∀ j, wr.frozen? ⟨w.heap.size, j, none⟩ = false) := by
            rcases hown.cases with ⟨h, _⟩ | ⟨g, h, _, h1, _, _, h2, h3⟩
            · cases h
            · injection h with h
              injection h with h
              subst h
              exact ⟨h2, h3⟩
          have hc2 := hoc (s + k) (by omega)
          simp only [ku] at hc2
          rw [if_neg (show ¬(s ≤ s + k ∧ s + k < s + k) by omega)] at hc2
          have hf2 := hof (s + k)
          obtain ⟨z, hz⟩ : ∃ z, R (s + k) = z := ⟨_, rfl⟩
          have hzm := HRM.out (s + k)
          rw [hz] at hc2 hzm
          obtain ⟨p1, p2⟩ := sub_mul_lt hcm hym hm2
          have hd1 : 0 ≤ ((z : Int) + ((m : Int) - (c : Int)) * (y : Int)) % (m : Int) := Int.emod_nonneg _ (by omega)
          have hd2 : ((z : Int) + ((m : Int) - (c : Int)) * (y : Int)) % (m : Int) < (m : Int) := Int.emod_lt_of_pos _ (by omega)
          have hskn : s + k < n := by omega
          have hV : ((z : Int) + ((m : Int) - (c : Int)) * (y : Int)) % (m : Int) = ((dStep m nb b iv s R (s + k) : Nat) : Int) := by
            unfold dStep
            rw [if_pos (Nat.le_add_right s k), Nat.add_sub_cancel_left, HC.out, hz, hy, Int.natCast_emod, Int.natCast_add, Int.natCast_mul, Int.ofNat_sub (Nat.le_of_lt hcm)]
          have HV := Lib.hid hV
          have HO := Lib.hid hown
          have HR := Lib.hid hrow
          have HB2 := Lib.hid hb
          clear hy hz hcell2 hoc hof hV hown hrow hb
          go_wp2
          go_roundw
          case rel =>
            rw [HV.out]
            refine ⟨k + 1, by omega, by go_num, (HO.out.set (show s + k < n by omega) _).congr fun j => ?_, HR.out.setOther (by show w1.heap.size ≠ w.heap.size; omega) _, hbel.setCell (Nat.le_refl _) _, by simpa using hqs⟩
            by_cases h1 : j = s + k
            · subst h1
              rw [if_pos rfl, if_pos (by omega)]
            · rw [if_neg h1]
              by_cases h2 : s ≤ j ∧ j < s + k
              · rw [if_pos h2, if_pos (by omega)]
              · rw [if_neg h2, if_neg (by omega)]
          case measure => simp [intOf]; omega
        · have hown2 : Own .u32 wr w.heap.size 22 (some ⟨w.heap.size, 0, none⟩) n c1 (dStep m nb b iv s R) := hown.congr fun j => by
            split
            · rfl
            · rcases Nat.lt_or_ge j s with h | h
              · unfold dStep
                rw [if_neg (by omega)]
              · exact (dStep_out HOb.out HRM.out (by omega)).symm
          have HO := Lib.hid hown2
          have HR := Lib.hid hrow
          clear hown hown2 hrow hb
          go_wp2
          go_roundw
          case rel =>
            refine ⟨s, dStep m nb b iv s R, by omega, rfl, HO.out, HR.out, HDR.out, fun j hj => ?_, dStep_lt hm HRM.out, hbel, hqs⟩
            rw [← HDQ.out j (by omega)]
            simp only [dQ]
            rw [if_neg (by omega)]
          case measure => simp [intOf]
    · obtain rfl : t = 0 := by omega
      have hr : R = dR m nb b iv (dL n nb) a := hdR
      subst hr
      have hsq1 : Sq .u32 wr w.heap.size wr.heap.size (some ⟨w1.heap.size, 0, none⟩) (dL n nb) (dQ m nb b iv (dL n nb) a) :=
        Sq.of_row hrow (Nat.le_refl _) (Nat.le_of_lt hlt1) hqs (fun j hj => dQ_out _ _ j hj) fun j _ => if_pos (Nat.zero_le j)
      have hsq2 := hown.sq (Nat.le_refl w.heap.size)
      have hle1 := hown.le
      have H1 := Lib.hid (trim_any (some ⟨w1.heap.size, 0, none⟩) (dL n nb) (dL n nb) _ wr _ _ hsq1 (Nat.le_refl _) (by omega))
      have H2 := Lib.hid (trim_any (some ⟨w.heap.size, 0, none⟩) n c1 _ wr _ _ hsq2 hle1 (by omega))
      have HS := Lib.hid (And.intro hsq1 hsq2)
      clear hsq1 hsq2 hown hrow hdR hdQ hRm hb ha haa hbb
      go_wp2_with fail
      refine H1.out.mono ?_
      rintro e w' ⟨rfl, rfl⟩
      go_wp2_with fail
      refine H2.out.mono ?_
      rintro e w' ⟨rfl, rfl⟩
      go_wp2
      go_ret2
      have t1 := tl_le (dQ m nb b iv (dL n nb) a) (dL n nb)
      have t2 := tl_le (dR m nb b iv (dL n nb) a) n
      exact ⟨_, _, _, _, rfl, t1, by omega, sq_tl HS.out.1, sq_tl HS.out.2, hbel⟩

set_option maxHeartbeats 1000000 in
theorem divide_short (m iv n nb ca cb : Nat) (A B : Option Addr) (a : Nat → Nat) (w : World) (lo hi : Nat) (ha : Sq .u32 w lo hi A n a)
    (hn : n ≤ 2000) (hnb : nb ≤ 2000) (hlt : n < nb) :
    Calls Try.prog 55 #[.int .u32 m, .slice A n ca, .slice B nb cb, .int .u32 iv] w (RetSl2 w 0 (fun _ => 0) (tl a n) a) := by
  have hge : decide ((n : Int) - (nb : Int) ≥ 0) = false := decide_eq_false (by omega)
  go_enter Try.func55, Try.ntmps55
  go_wp2_with (at_builtin; refine wpl_append rfl _ _ _ rfl e32 rfl (Own.nil _ _ w.heap.size _) rfl ha a (fun j h => absurd h (Nat.not_lt_zero j)) (fun j => by rw [Nat.zero_add]) (by unfold maxLen; omega) (by omega) (Nat.le_refl _) ?_; intro A1 c1 w1 hown1 hg1 hb1 hat1; rw [Nat.zero_add] at hown1)
  refine wp_loop_rounds 1 ?_
  rw [rounds_succ]
  have H1 := Lib.hid (trim_any none 0 0 (fun _ => 0) w1 0 0 (Sq.nil _ _ _ _ _) (Nat.le_refl _) (by omega))
  have H2 := Lib.hid (trim_any A1 n c1 a w1 _ _ (hown1.sq (Nat.le_refl _)) hown1.le (by omega))
  have HO := Lib.hid hown1
  clear hown1 hat1 hg1
  go_wp2_with fail
  refine H1.out.mono ?_
  rintro e w' ⟨rfl, rfl⟩
  go_wp2_with fail
  refine H2.out.mono ?_
  rintro e w' ⟨rfl, rfl⟩
  go_wp2
  go_ret2
  have t2 := tl_le a n
  have hle := HO.out.le
  exact ⟨_, _, _, _, rfl, Nat.le_refl _, by omega, Sq.nil _ _ _ _ _, sq_tl (HO.out.sq (Nat.le_refl _)), hb1⟩

theorem divide_any (m iv n nb ca cb : Nat) (A B : Option Addr) (a b : Nat → Nat) (w : World) (lo hi : Nat) (ha : Sq .u32 w lo hi A n a) (hb : Sq .u32 w lo hi B nb b)
    (hm : 0 < m) (hm2 : m ≤ 2147483647) (hiv : iv < m) (haa : ∀ j, a j < m) (hbb : ∀ j, b j < m) (hn : n ≤ 2000) (hnb : nb ≤ 2000) (hhi : hi ≤ w.heap.size) (hnb0 : 0 < nb) :
    Calls Try.prog 55 #[.int .u32 m, .slice A n ca, .slice B nb cb, .int .u32 iv] w (RetSl2 w (tl (dQ m nb b iv (dL n nb) a) (dL n nb)) (dQ m nb b iv (dL n nb) a) (tl (dR m nb b iv (dL n nb) a) n) (dR m nb b iv (dL n nb) a)) := by
  rcases Nat.lt_or_ge n nb with h | h
  · have e : dL n nb = 0 := by unfold dL; omega
    rw [e]
    exact divide_short m iv n nb ca cb A B a w lo hi ha hn hnb h
  · exact divide_long m iv n nb ca cb A B a b w lo hi ha hb hm hm2 hiv haa hbb hn hnb hhi hnb0 h
end Go.Proofs.Ytkklacgoeopekaa

namespace Go.Proofs.Ytkklacgoeopekaa
open Go.RowKit

theorem sub_mul_mod {m x c y : Nat} (hm : 0 < m) (hc : c ≤ m) : (x + m - c * y % m) % m = (x + (m - c) * y) % m := by
  have h1 : c * y % m < m := Nat.mod_lt _ hm
  have key : ((x + m - c * y % m) + c * y) % m = ((x + (m - c) * y) + c * y) % m := by
    have e1 : (x + (m - c) * y) + c * y = x + m * y := by rw [Nat.add_assoc, ← Nat.add_mul, Nat.sub_add_cancel hc]
    rw [e1, Nat.add_mul_mod_self_left]
    have e2 : c * y = m * (c * y / m) + c * y % m := (Nat.div_add_mod _ _).symm
    have e3 : (x + m - c * y % m) + c * y = x + m * (1 + c * y / m) := by rw [Nat.mul_add, Nat.mul_one]; omega
    rw [e3, Nat.add_mul_mod_self_left]
  have k2 : ((x + m - c * y % m) % m + c * y % m) % m = ((x + (m - c) * y) % m + c * y % m) % m := by rw [← Nat.add_mod, key, Nat.add_mod]
  have a1 : (x + m - c * y % m) % m < m := Nat.mod_lt _ hm
  have a2 : (x + (m - c) * y) % m < m := Nat.mod_lt _ hm
  generalize (x + m - c * y % m) % m = p at *
  generalize (x + (m - c) * y) % m = q at *
  generalize c * y % m = z at *
  rcases Nat.lt_or_ge (p + z) m with h | h <;> rcases Nat.lt_or_ge (q + z) m with h' | h'
  · rw [Nat.mod_eq_of_lt h, Nat.mod_eq_of_lt h'] at k2; omega
  · rw [Nat.mod_eq_of_lt h, Nat.mod_eq_sub_mod h', Nat.mod_eq_of_lt (by omega)] at k2; omega
  · rw [Nat.mod_eq_of_lt h', Nat.mod_eq_sub_mod h, Nat.mod_eq_of_lt (by omega)] at k2; omega
  · rw [Nat.mod_eq_sub_mod h', Nat.mod_eq_sub_mod h, Nat.mod_eq_of_lt (by omega), Nat.mod_eq_of_lt (by omega)] at k2; omega

def monoF (c s : Nat) : Nat → Nat := fun j => if j = s then c else 0

theorem mulF_mono {m c s : Nat} {b : Nat → Nat} (j : Nat) : mulF m (monoF c s) b j = if s ≤ j then c * b (j - s) % m else 0 := by
  unfold mulF
  have key : ∀ n, sumN (fun t => monoF c s t * b (j - t)) n = if s < n then c * b (j - s) else 0 := by
    intro n
    induction n with
    | zero => rfl
    | succ n ih =>
      rw [sumN, ih]
      unfold monoF
      by_cases h : n = s
      · subst h
        rw [if_neg (Nat.lt_irrefl n), if_pos rfl, if_pos (Nat.lt_succ_self n), Nat.zero_add]
      · rw [if_neg h, Nat.zero_mul, Nat.add_zero]
        by_cases h2 : s < n
        · rw [if_pos h2, if_pos (by omega)]
        · rw [if_neg h2, if_neg (by omega)]
  rw [key]
  by_cases h : s ≤ j
  · rw [if_pos (by omega), if_pos h]
  · rw [if_neg (by omega), if_neg h, Nat.zero_mod]

/-- the reference's step is divide's -/
theorem subF_mono {m nb iv s : Nat} {b R : Nat → Nat} (hm : 0 < m) (hR : ∀ j, R j < m) (j : Nat) : subF m R (mulF m (monoF (dC m nb iv s R) s) b) j = dStep m nb b iv s R j := by
  unfold subF dStep
  rw [mulF_mono]
  split
  · exact sub_mul_mod hm (Nat.le_of_lt (Nat.mod_lt _ hm))
  · rw [Nat.sub_zero, Nat.add_mod_right, Nat.mod_eq_of_lt (hR j)]

theorem tl_tl (f : Nat → Nat) (n : Nat) : tl f (tl f n) = tl f n := tl_unique (Nat.le_refl _) (fun j h1 h2 => by omega) (tl_last f n)

/-- what holds at the loop's head -/
def SplitR (m nb iv n q : Nat) (a b : Nat → Nat) (w : World) (r : Value) (wr : World) : Prop :=
  ∃ (n' c' : Nat) (R : Nat → Nat) (A' : Option Addr), r = .slice A' n' c' ∧ n' ≤ n ∧ n' ≤ c' ∧ Sq .u32 wr w.heap.size wr.heap.size A' n' R ∧ tl R n' = n' ∧ (∀ j, R j < m) ∧
    wr.rowIs q 22 (n + 1) (ku .u32 fun j => if dL n' nb ≤ j then dQ m nb b iv (dL n nb) a j else 0) ∧
    dR m nb b iv (dL n' nb) R = dR m nb b iv (dL n nb) a ∧ (∀ j, j < dL n' nb → dQ m nb b iv (dL n' nb) R j = dQ m nb b iv (dL n nb) a j) ∧ Below w.heap.size w wr ∧ q < wr.heap.size ∧ (0 < n' → ∀ b off, A' = some ⟨b, off, none⟩ → b ≠ q)

theorem Sq.setOther {k : IntKind} {w : World} {lo hi n : Nat} {A : Option Addr} {f : Nat → Nat} {p : Addr} {v : Value} (h : Sq k w lo hi A n f) (hne : ∀ b off, A = some ⟨b, off, none⟩ → b ≠ p.block) : Sq k (w.setCell p v) lo hi A n f :=
  ⟨h.1, fun hn => by
    obtain ⟨b, off, e, h1, h2, h3⟩ := h.2 hn
    exact ⟨b, off, e, h1, h2, fun j hj => (World.cell?_setCell_other w p _ v (fun e2 => hne b off e (by rw [e2]))).trans (h3 j hj)⟩⟩

theorem dL_pos {n nb : Nat} (h : nb ≤ n) : dL n nb = n - nb + 1 := by unfold dL; omega

/-- one round of the loop, said of the functions alone -/
theorem split_step {m nb iv n n' s : Nat} {a b R R' : Nat → Nat} (hm : 0 < m) (hnb : 0 < nb) (hiv : iv * b (nb - 1) % m = 1 % m) (hb : ∀ j, nb ≤ j → b j = 0) (hR : ∀ j, R j < m) (hRz : ∀ j, n' ≤ j → R j = 0)
    (hs : n' = s + nb) (hR' : R' = dStep m nb b iv s R) (h1 : dR m nb b iv (dL n' nb) R = dR m nb b iv (dL n nb) a) (h2 : ∀ j, j < dL n' nb → dQ m nb b iv (dL n' nb) R j = dQ m nb b iv (dL n nb) a j) :
    tl R' n' < n' ∧ (∀ j, tl R' n' ≤ j → R' j = 0) ∧ dR m nb b iv (dL (tl R' n') nb) R' = dR m nb b iv (dL n nb) a ∧ (∀ j, j < dL (tl R' n') nb → dQ m nb b iv (dL (tl R' n') nb) R' j = dQ m nb b iv (dL n nb) a j) ∧
      (∀ j, dL (tl R' n') nb ≤ j → j < s → dQ m nb b iv (dL n nb) a j = 0) ∧ dQ m nb b iv (dL n nb) a s = dC m nb iv s R ∧ dL (tl R' n') nb ≤ s := by
  have hL : dL n' nb = s + 1 := by rw [dL_pos (by omega)]; omega
  rw [hL] at h1 h2
  have hz : ∀ j, n' ≤ j → R' j = 0 := fun j hj => by rw [hR', dStep_out hb hR (by omega)]; exact hRz j hj
  have hlead : R' (n' - 1) = 0 := by rw [hR', show n' - 1 = s + nb - 1 from by omega]; exact dStep_lead hm hnb hiv hR
  have hlt : tl R' n' < n' := by
    rcases Nat.lt_or_ge (tl R' n') n' with h | h
    · exact h
    · have h3 := tl_le R' n'
      have h4 : tl R' n' = n' := by omega
      have h5 := tl_last R' n' (by omega)
      rw [h4] at h5
      exact absurd hlead h5
  have hz2 : ∀ j, tl R' n' ≤ j → R' j = 0 := fun j hj => by
    rcases Nat.lt_or_ge j n' with h | h
    · exact tl_zero R' n' j hj h
    · exact hz j h
  have hRm' : ∀ j, R' j < m := fun j => by rw [hR']; exact dStep_lt hm hR j
  have hk : dL (tl R' n') nb ≤ s := by unfold dL; omega
  obtain ⟨d, hd⟩ := Nat.exists_eq_add_of_le hk
  have hskip := dR_skip (b := b) (iv := iv) (k := dL (tl R' n') nb) d R' hRm' (fun j hj => hz2 j (by unfold dL at hj; omega)) hnb
  rw [← hd] at hskip
  simp only [dR] at h1
  rw [← hR'] at h1
  have h2' : ∀ j, j < s → dQ m nb b iv s R' j = dQ m nb b iv (dL n nb) a j := fun j hj => by
    rw [← h2 j (by omega)]
    simp only [dQ]
    rw [if_neg (by omega), ← hR']
  refine ⟨hlt, hz2, by rw [← hskip.1]; exact h1, fun j hj => by rw [← hskip.2]; exact h2' j (by omega), fun j h3 h4 => ?_, ?_, hk⟩
  · rw [← h2' j h4, hskip.2]
    exact dQ_out _ _ j h3
  · rw [← h2 s (by omega)]
    simp only [dQ, if_true]

end Go.Proofs.Ytkklacgoeopekaa

namespace Go.Proofs.Ytkklacgoeopekaa
open Go.RowKit

/-- the error and the results of a division -/
def dvE (m n : Nat) (a : Nat → Nat) (nb : Nat) (b : Nat → Nat) : Nat := if chk2 m n a nb b = 0 then (if (unitF m nb b).2 = true then 0 else 7) else chk2 m n a nb b
def dvQ (m n : Nat) (a : Nat → Nat) (nb : Nat) (b : Nat → Nat) : Nat → Nat := if dvE m n a nb b = 0 then dQ m nb b (unitF m nb b).1 (dL n nb) a else fun _ => 0
def dvR (m n : Nat) (a : Nat → Nat) (nb : Nat) (b : Nat → Nat) : Nat → Nat := if dvE m n a nb b = 0 then dR m nb b (unitF m nb b).1 (dL n nb) a else fun _ => 0

/-- two new lists and an error -/
def RetSl3 (w : World) (n1 : Nat) (F1 : Nat → Nat) (n2 : Nat) (F2 : Nat → Nat) (er : Nat) (e : Ending) (w' : World) : Prop :=
  ∃ A1 c1 A2 c2, e = .returned (.tuple #[.slice A1 n1 c1, .slice A2 n2 c2, .int .i64 (er : Int)]) ∧ n1 ≤ c1 ∧ n2 ≤ c2 ∧ Sq .u32 w' w.heap.size w'.heap.size A1 n1 F1 ∧ Sq .u32 w' w.heap.size w'.heap.size A2 n2 F2 ∧ Below w.heap.size w w'

def RetDv (w : World) (m n : Nat) (a : Nat → Nat) (nb : Nat) (b : Nat → Nat) : Ending → World → Prop :=
  RetSl3 w (tl (dvQ m n a nb b) (dL n nb)) (dvQ m n a nb b) (tl (dvR m n a nb b) n) (dvR m n a nb b) (dvE m n a nb b)

theorem retDv_err {w w' : World} {m n nb x : Nat} {a b : Nat → Nat} (hx : dvE m n a nb b = x) (h0 : x ≠ 0) (hb : Below w.heap.size w w') : RetDv w m n a nb b (.returned (.tuple #[.slice none 0 0, .slice none 0 0, .int .i64 (x : Int)])) w' := by
  have e1 : dvQ m n a nb b = fun _ => 0 := by unfold dvQ; rw [hx, if_neg h0]
  have e2 : dvR m n a nb b = fun _ => 0 := by unfold dvR; rw [hx, if_neg h0]
  unfold RetDv
  rw [e1, e2, hx, tl_zeros (fun _ => rfl), tl_zeros (fun _ => rfl)]
  exact ⟨none, 0, none, 0, rfl, Nat.le_refl _, Nat.le_refl _, Sq.nil _ _ _ _ _, Sq.nil _ _ _ _ _, hb⟩
theorem retDv_ok {w w0 w' : World} {m n nb iv : Nat} {a b : Nat → Nat} {x y : Value} (hc : chk2 m n a nb b = 0) (hu : unitF m nb b = (iv, true)) (hb : Below w.heap.size w w0)
    (h : RetSl2 w0 (tl (dQ m nb b iv (dL n nb) a) (dL n nb)) (dQ m nb b iv (dL n nb) a) (tl (dR m nb b iv (dL n nb) a) n) (dR m nb b iv (dL n nb) a) (.returned (.tuple #[x, y])) w') :
    RetDv w m n a nb b (.returned (.tuple #[x, y, .int .i64 0])) w' := by
  have e0 : dvE m n a nb b = 0 := by unfold dvE; rw [if_pos hc, hu, if_pos rfl]
  have e1 : dvQ m n a nb b = dQ m nb b iv (dL n nb) a := by unfold dvQ; rw [if_pos e0, hu]
  have e2 : dvR m n a nb b = dR m nb b iv (dL n nb) a := by unfold dvR; rw [if_pos e0, hu]
  unfold RetDv
  rw [e0, e1, e2]
  obtain ⟨A1, c1, A2, c2, he, h1, h2, h3, h4, h5⟩ := h
  injection he with he
  injection he with he
  injection he with he
  injection he with hx he
  injection he with hy _
  subst hx hy
  exact ⟨A1, c1, A2, c2, rfl, h1, h2, h3.wide hb.size (Nat.le_refl _), h4.wide hb.size (Nat.le_refl _), hb.trans (h5.mono hb.size)⟩

/-- what valid says of two polynomials that have just been put into a slice -/
theorem valid2_call (m n nb ca cb : Nat) (A B : Option Addr) (a b : Nat → Nat) (w : World) (lo hi : Nat) (ha : Sq .u32 w lo hi A n a) (hb : Sq .u32 w lo hi B nb b) (hn : n ≤ 9223372036854775807) (hnb : nb ≤ 9223372036854775807) (hhi : hi ≤ w.heap.size) (W : World)
    (hW : W = w.alloc (.cells #[.slice A n ca, .slice B nb cb] 34)) :
    Calls Try.prog 52 #[.int .u32 m, .slice (some ⟨w.heap.size, 0, none⟩) 2 2] W (fun e w' => e = .returned (.int .i64 (chk2 m n a nb b : Nat)) ∧ Below w.heap.size w w') := by
  subst hW
  have hbel := (Below.refl w.heap.size w).alloc (Nat.le_refl _) (.cells #[.slice A n ca, .slice B nb cb] 34)
  refine (valid2_any m w.heap.size n nb ca cb A B a b _ lo hi (by rw [World.cell?_alloc_new]; rfl) (by rw [World.cell?_alloc_new]; rfl) (ha.below hbel hhi) (hb.below hbel hhi) hn hnb).mono fun e w' h => ⟨h.1, hbel.trans (h.2.mono (by simp))⟩

set_option maxHeartbeats 1000000 in
theorem divmod_any (m n nb ca cb : Nat) (A B : Option Addr) (a b : Nat → Nat) (w : World) (lo hi : Nat) (ha : Sq .u32 w lo hi A n a) (hb : Sq .u32 w lo hi B nb b) (hn : n ≤ 9223372036854775807) (hnb : nb ≤ 9223372036854775807) (hhi : hi ≤ w.heap.size) :
    Calls Try.prog 31 #[.int .u32 m, .slice A n ca, .slice B nb cb] w (RetDv w m n a nb b) := by
  have HV := Lib.hid (valid2_call m n nb ca cb A B a b w lo hi ha hb hn hnb hhi)
  by_cases hc : chk2 m n a nb b = 0
  · rw [hc] at HV
    obtain ⟨hc1, hc2⟩ := chk2_zero hc
    obtain ⟨m1, m2, n1, n2, n3⟩ := chk_zero hc1
    obtain ⟨_, _, b1, b2, b3⟩ := chk_zero hc2
    have haa : ∀ j, a j < m := fun j => by
      rcases Nat.lt_or_ge j n with h | h
      · exact n2 j h
      · rw [ha.1 j h]; omega
    have hbb : ∀ j, b j < m := fun j => by
      rcases Nat.lt_or_ge j nb with h | h
      · exact b2 j h
      · rw [hb.1 j h]; omega
    have HC := Lib.hid hc
    clear hc hc1 hc2 n2 n3 b2 b3
    rcases hu : unitF m nb b with ⟨iv, t⟩
    cases t
    · have hE : dvE m n a nb b = 7 := by unfold dvE; rw [if_pos HC.out, hu]; rfl
      have HU := Lib.hid hu
      have HE := Lib.hid hE
      have HA := Lib.hid (And.intro ha hb)
      have HBB := Lib.hid hbb
      have hiv : iv = 0 := by
        unfold unitF at hu
        split at hu
        · injection hu with h1; exact h1.symm
        · split at hu
          · injection hu with _ h2; cases h2
          · injection hu with h1; exact h1.symm
      subst hiv
      clear hu hE ha hb hbb haa
      go_enter Try.func31, Try.ntmps31
      go_wp2_with fail
      refine (HV.out _ rfl).mono ?_
      rintro e w1 ⟨rfl, hbel1⟩
      have hun := unit_any m nb cb B b w1 lo hi (HA.out.2.below hbel1 hhi) (by omega) m1 m2 (HBB.out _)
      rw [HU.out] at hun
      have HUN := Lib.hid hun
      clear hun
      go_wp2_with fail
      refine HUN.out.mono ?_
      rintro e w2 ⟨rfl, hbel2⟩
      go_wp2
      go_ret3
      exact retDv_err HE.out (by decide) (hbel1.trans (hbel2.mono hbel1.size))
    · obtain ⟨hnb0, hiv, hinv⟩ := unitF_true hu m1 (hbb _)
      have HU := Lib.hid hu
      have HA := Lib.hid (And.intro ha hb)
      have HBB := Lib.hid hbb
      have HAA := Lib.hid haa
      clear hu ha hb hbb haa hinv
      go_enter Try.func31, Try.ntmps31
      go_wp2_with fail
      refine (HV.out _ rfl).mono ?_
      rintro e w1 ⟨rfl, hbel1⟩
      have hun := unit_any m nb cb B b w1 lo hi (HA.out.2.below hbel1 hhi) (by omega) m1 m2 (HBB.out _)
      rw [HU.out] at hun
      have HUN := Lib.hid hun
      clear hun
      go_wp2_with fail
      refine HUN.out.mono ?_
      rintro e w2 ⟨rfl, hbel2⟩
      have hbel12 := hbel1.trans (hbel2.mono hbel1.size)
      go_wp2_with fail
      refine (divide_any m iv n nb ca cb A B a b w2 lo hi (HA.out.1.below hbel12 hhi) (HA.out.2.below hbel12 hhi) (by omega) m2 hiv HAA.out HBB.out (by omega) (by omega) (by have := hbel12.size; omega) hnb0).mono ?_
      rintro e w3 h3
      obtain ⟨A1, c1, A2, c2, rfl, hr⟩ := h3
      have HR := Lib.hid hr
      clear hr
      go_wp2
      go_ret3
      exact retDv_ok HC.out HU.out hbel12 ⟨A1, c1, A2, c2, rfl, HR.out⟩
  · obtain ⟨x, hx⟩ : ∃ x, chk2 m n a nb b = x := ⟨_, rfl⟩
    have hE : dvE m n a nb b = x := by unfold dvE; rw [if_neg hc, hx]
    rw [hx] at HV hc
    have hxz : ((x : Int) != 0) = true := by simp; omega
    have HE := Lib.hid hE
    clear hx ha hb hE
    go_enter Try.func31, Try.ntmps31
    go_wp2_with fail
    refine (HV.out _ rfl).mono ?_
    rintro e w1 ⟨rfl, hbel1⟩
    go_wp2
    go_ret3
    exact retDv_err HE.out hc hbel1
end Go.Proofs.Ytkklacgoeopekaa

namespace Go.Proofs.Ytkklacgoeopekaa
open Go.RowKit

theorem tl_of_last {n : Nat} {f : Nat → Nat} (h : 0 < n → f (n - 1) ≠ 0) : tl f n = n := tl_unique (Nat.le_refl _) (fun j h1 h2 => by omega) h

/-- a new list and an error -/
def RetSlE (w : World) (n : Nat) (F : Nat → Nat) (er : Nat) (e : Ending) (w' : World) : Prop :=
  ∃ A c, e = .returned (.tuple #[.slice A n c, .int .i64 (er : Int)]) ∧ n ≤ c ∧ Sq .u32 w' w.heap.size w'.heap.size A n F ∧ Below w.heap.size w w'

/-- the error and the result of a product -/
def mlE (m n : Nat) (a : Nat → Nat) (nb : Nat) (b : Nat → Nat) : Nat := if chk2 m n a nb b = 0 then (if 0 < n ∧ 0 < nb ∧ 257 < n + nb then 3 else 0) else chk2 m n a nb b
def mlF (m n : Nat) (a : Nat → Nat) (nb : Nat) (b : Nat → Nat) : Nat → Nat := if mlE m n a nb b = 0 then mulF m a b else fun _ => 0
def RetMl (w : World) (m n : Nat) (a : Nat → Nat) (nb : Nat) (b : Nat → Nat) : Ending → World → Prop := RetSlE w (tl (mlF m n a nb b) (n + nb)) (mlF m n a nb b) (mlE m n a nb b)

theorem retMl_err {w w' : World} {m n nb x : Nat} {a b : Nat → Nat} (hx : mlE m n a nb b = x) (h0 : x ≠ 0) (hb : Below w.heap.size w w') : RetMl w m n a nb b (.returned (.tuple #[.slice none 0 0, .int .i64 (x : Int)])) w' := by
  have e1 : mlF m n a nb b = fun _ => 0 := by unfold mlF; rw [hx, if_neg h0]
  unfold RetMl
  rw [e1, hx, tl_zeros (fun _ => rfl)]
  exact ⟨none, 0, rfl, Nat.le_refl _, Sq.nil _ _ _ _ _, hb⟩
theorem retMl_ok {w w0 w' : World} {m n nb : Nat} {a b : Nat → Nat} {x : Value} (hE : mlE m n a nb b = 0) (hb : Below w.heap.size w w0) (h : RetSl w0 (tl (mulF m a b) (n + nb)) (mulF m a b) (.returned x) w') :
    RetMl w m n a nb b (.returned (.tuple #[x, .int .i64 0])) w' := by
  have e1 : mlF m n a nb b = mulF m a b := by unfold mlF; rw [if_pos hE]
  unfold RetMl
  rw [e1, hE]
  obtain ⟨A, c, he, h1, h2, h3⟩ := h
  injection he with he
  subst he
  exact ⟨A, c, rfl, h1, h2.wide hb.size (Nat.le_refl _), hb.trans (h3.mono hb.size)⟩

theorem vals_lt {m n : Nat} {f : Nat → Nat} (h : chk m n f = 0) (hz : ∀ j, n ≤ j → f j = 0) : ∀ j, f j < m := fun j => by
  obtain ⟨m1, _, _, n2, _⟩ := chk_zero h
  rcases Nat.lt_or_ge j n with h | h
  · exact n2 j h
  · rw [hz j h]; omega

set_option maxHeartbeats 1000000 in
theorem mul_any (m n nb ca cb : Nat) (A B : Option Addr) (a b : Nat → Nat) (w : World) (lo hi : Nat) (ha : Sq .u32 w lo hi A n a) (hb : Sq .u32 w lo hi B nb b) (hn : n ≤ 9223372036854775807) (hnb : nb ≤ 9223372036854775807) (hhi : hi ≤ w.heap.size) :
    Calls Try.prog 50 #[.int .u32 m, .slice A n ca, .slice B nb cb] w (RetMl w m n a nb b) := by
  have HV := Lib.hid (valid2_call m n nb ca cb A B a b w lo hi ha hb hn hnb hhi)
  by_cases hc : chk2 m n a nb b = 0
  · rw [hc] at HV
    obtain ⟨hc1, hc2⟩ := chk2_zero hc
    obtain ⟨m1, m2, n1, n2, n3⟩ := chk_zero hc1
    obtain ⟨_, _, b1, b2, b3⟩ := chk_zero hc2
    have HAA := Lib.hid (vals_lt hc1 ha.1)
    have HBB := Lib.hid (vals_lt hc2 hb.1)
    have HA := Lib.hid (And.intro ha hb)
    have HC := Lib.hid hc
    clear hc hc1 hc2 n2 n3 b2 b3 ha hb
    by_cases hl : 0 < n ∧ 0 < nb ∧ 257 < n + nb
    · obtain ⟨l1, l2, l3⟩ := hl
      have hE : mlE m n a nb b = 3 := by unfold mlE; rw [if_pos HC.out, if_pos ⟨l1, l2, l3⟩]
      have HE := Lib.hid hE
      have hd : decide ((n : Int) + (nb : Int) > 257) = true := decide_eq_true (by omega)
      clear hE
      go_enter Try.func50, Try.ntmps50
      go_wp2_with fail
      refine (HV.out _ rfl).mono ?_
      rintro e w1 ⟨rfl, hbel1⟩
      go_wp2
      go_ret2
      exact retMl_err HE.out (by decide) hbel1
    · have hE : mlE m n a nb b = 0 := by unfold mlE; rw [if_pos HC.out, if_neg hl]
      have HE := Lib.hid hE
      clear hE
      have hcase : n = 0 ∨ (0 < n ∧ nb = 0) ∨ (0 < n ∧ 0 < nb ∧ n + nb ≤ 257) := by omega
      clear hl
      rcases hcase with h | ⟨h, h'⟩ | ⟨h, h', h''⟩
      · subst h
        go_enter Try.func50, Try.ntmps50
        go_wp2_with fail
        refine (HV.out _ rfl).mono ?_
        rintro e w1 ⟨rfl, hbel1⟩
        go_wp2_with fail
        refine (product_any m 0 nb ca cb A B a b w1 lo hi (HA.out.1.below hbel1 hhi) (HA.out.2.below hbel1 hhi) (by omega) m2 HAA.out HBB.out (by omega) (by omega) (by have := hbel1.size; omega)).mono ?_
        rintro e w3 ⟨A1, c1, rfl, hr⟩
        have HR := Lib.hid hr
        clear hr
        go_wp2
        go_ret2
        exact retMl_ok HE.out hbel1 ⟨A1, c1, by rw [Nat.zero_add]; rfl, HR.out⟩
      · subst h'
        go_enter Try.func50, Try.ntmps50
        go_wp2_with fail
        refine (HV.out _ rfl).mono ?_
        rintro e w1 ⟨rfl, hbel1⟩
        go_wp2_with fail
        refine (product_any m n 0 ca cb A B a b w1 lo hi (HA.out.1.below hbel1 hhi) (HA.out.2.below hbel1 hhi) (by omega) m2 HAA.out HBB.out (by omega) (by omega) (by have := hbel1.size; omega)).mono ?_
        rintro e w3 ⟨A1, c1, rfl, hr⟩
        have HR := Lib.hid hr
        clear hr
        go_wp2
        go_ret2
        exact retMl_ok HE.out hbel1 ⟨A1, c1, rfl, HR.out⟩
      · go_enter Try.func50, Try.ntmps50
        go_wp2_with fail
        refine (HV.out _ rfl).mono ?_
        rintro e w1 ⟨rfl, hbel1⟩
        go_wp2_with fail
        refine (product_any m n nb ca cb A B a b w1 lo hi (HA.out.1.below hbel1 hhi) (HA.out.2.below hbel1 hhi) (by omega) m2 HAA.out HBB.out (by omega) (by omega) (by have := hbel1.size; omega)).mono ?_
        rintro e w3 ⟨A1, c1, rfl, hr⟩
        have HR := Lib.hid hr
        clear hr
        go_wp2
        go_ret2
        exact retMl_ok HE.out hbel1 ⟨A1, c1, rfl, HR.out⟩
  · obtain ⟨x, hx⟩ : ∃ x, chk2 m n a nb b = x := ⟨_, rfl⟩
    have hE : mlE m n a nb b = x := by unfold mlE; rw [if_neg hc, hx]
    rw [hx] at HV hc
    have hxz : ((x : Int) != 0) = true := by simp; omega
    have HE := Lib.hid hE
    clear hx ha hb hE
    go_enter Try.func50, Try.ntmps50
    go_wp2_with fail
    refine (HV.out _ rfl).mono ?_
    rintro e w1 ⟨rfl, hbel1⟩
    go_wp2
    go_ret2
    exact retMl_err HE.out hc hbel1
end Go.Proofs.Ytkklacgoeopekaa

namespace Go.Proofs.Ytkklacgoeopekaa
open Go.RowKit
set_option linter.unusedVariables false

/-- a written-out list -/
def litF (l : List Nat) : Nat → Nat := fun j => l.getD j 0

theorem sq_list (k : IntKind) (w : World) (e lo hi : Nat) (l : List Nat) (hl : lo ≤ w.heap.size) (hh : w.heap.size < hi) :
    Sq k (w.alloc (.cells (l.map fun (x : Nat) => Value.int k (x : Int)).toArray e)) lo hi (some ⟨w.heap.size, 0, none⟩) l.length (litF l) :=
  sq_new (litF l) hl hh (fun j hj => by unfold litF; rw [List.getD_eq_getElem?_getD, List.getElem?_eq_none hj]; rfl) fun j hj => by
    rw [List.getElem?_toArray, List.getElem?_map, List.getElem?_eq_getElem hj]
    simp [litF, hj]

theorem Sq.fcongr {k : IntKind} {w : World} {lo hi n n' : Nat} {A : Option Addr} {f g : Nat → Nat} (h : Sq k w lo hi A n f) (hn : n = n') (hz : ∀ j, n ≤ j → g j = 0) (e : ∀ j, j < n → f j = g j) : Sq k w lo hi A n' g := by
  subst hn
  refine ⟨hz, fun hn => ?_⟩
  obtain ⟨b, off, e1, h1, h2, h3⟩ := h.2 hn
  exact ⟨b, off, e1, h1, h2, fun j hj => by rw [h3 j hj, e j hj]⟩

theorem litF_out {l : List Nat} {j : Nat} (h : l.length ≤ j) : litF l j = 0 := by unfold litF; rw [List.getD_eq_getElem?_getD, List.getElem?_eq_none h]; rfl

/-- a list that reads as F reads as the written-out list, if the two agree -/
theorem sq_lit {k : IntKind} {w : World} {lo hi n : Nat} {A : Option Addr} {F : Nat → Nat} (l : List Nat) (h : Sq k w lo hi A n F) (hb : sameB n F l.length (litF l) = true) : Sq k w lo hi A l.length (litF l) := by
  obtain ⟨h1, h2⟩ := sameB_true.1 hb
  exact h.fcongr h1 (fun j hj => litF_out (by omega)) h2

end Go.Proofs.Ytkklacgoeopekaa
