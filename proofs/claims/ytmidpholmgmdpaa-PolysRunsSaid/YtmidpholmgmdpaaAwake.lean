/- The contracts of the reference's minus and times. -/
/- The contract of the reference's Inverse. -/
/- The contracts of poly.unit and of the reference's leads. -/
/- The contract of poly.divide. -/
/- The contract of the reference's split: the same quotient and rest as divide, of a list that ends in no zero. -/
/- The contracts of poly.DivMod and of the reference's DivMod: one and the same. -/
/- The contract of the reference's DivMod; of poly.Mul. -/
/- Written-out lists in memory. -/
/- The contract of the law's own awake: it returns true. -/
import Derived.Test.YtmidpholmgmdpaaProduct
import Derived.Test.YtmidpholmgmdpaaRMod7
import Derived.Test.YtmidpholmgmdpaaPow
import Derived.Test.YtmidpholmgmdpaaAlg
namespace Go.Proofs.Ytmidpholmgmdpaa
open Go.RowKit

def cutF (k : Nat) (F : Nat → Nat) : Nat → Nat := fun j => if j < k then F j else 0
theorem cutF_out {k : Nat} {F : Nat → Nat} {j : Nat} (h : k ≤ j) : cutF k F j = 0 := if_neg (by omega)
theorem cutF_lt {k : Nat} {F : Nat → Nat} {j : Nat} (h : j < k) : cutF (k + 1) F j = cutF k F j := by
  unfold cutF
  rw [if_pos h, if_pos (by omega)]
theorem cutF_add {k : Nat} {F : Nat → Nat} (j : Nat) : cutF (k + 1) F (k + j) = oneF (F k) j := by
  unfold cutF oneF
  by_cases h : j = 0
  · subst h
    rw [if_pos (by omega), if_pos rfl, Nat.add_zero]
  · rw [if_neg (by omega), if_neg h]
theorem cutF_all {N : Nat} {F : Nat → Nat} (h : ∀ j, N ≤ j → F j = 0) (j : Nat) : cutF N F j = F j := by
  unfold cutF
  split
  · rfl
  · exact (h j (by omega)).symm

theorem subF_val {m x y : Nat} (hy : y < m) : ((x : Int) + (m : Int) - (y : Int)) % (m : Int) = (((x + m - y) % m : Nat) : Int) := by
  rw [Int.natCast_emod, Int.ofNat_sub (by omega)]
  simp
theorem subF_out {m n nb : Nat} {a b : Nat → Nat} (ha : ∀ j, n ≤ j → a j = 0) (hb : ∀ j, nb ≤ j → b j = 0) (j : Nat) (h1 : n ≤ j) (h2 : nb ≤ j) : subF m a b j = 0 := by
  unfold subF
  rw [ha j h1, hb j h2]
  simp
theorem subF_lt {m : Nat} (hm : 0 < m) (a b : Nat → Nat) (j : Nat) : subF m a b j < m := Nat.mod_lt _ hm

set_option maxHeartbeats 1000000 in
theorem minus_any (m n nb ca cb : Nat) (A B : Option Addr) (a b : Nat → Nat) (w : World) (lo hi lo2 hi2 : Nat) (ha : Sq .u32 w lo hi A n a) (hb : Sq .u32 w lo2 hi2 B nb b)
    (hm : 0 < m) (hm2 : m ≤ 2147483647) (haa : ∀ j, a j < m) (hbb : ∀ j, b j < m) (hn : n ≤ 2000) (hnb : nb ≤ 2000) (hhi : hi ≤ w.heap.size) (hhi2 : hi2 ≤ w.heap.size) :
    Calls Try.prog 61 #[.int .u32 m, .slice A n ca, .slice B nb cb] w (RetSl w (tl (subF m a b) (max n nb)) (subF m a b)) := by
  obtain ⟨N, hN⟩ : ∃ N, N = max n nb := ⟨_, rfl⟩
  rw [← hN]
  have hN3 : N ≤ 2000 := by omega
  have HO := Lib.hid (subF_out (m := m) ha.1 hb.1)
  rcases Nat.lt_or_ge n nb with hlt | hlt
  all_goals
    have hN1 : n ≤ N := by omega
    have hN2 : nb ≤ N := by omega
    have hN4 : N ≤ n ∨ N ≤ nb := by omega
    have HN := Lib.hid hN
    clear hN
    go_enter Try.func61, Try.ntmps61
    go_wp2
    go_loopw [7, 8] (fun o i wr => ∃ (k : Nat) (A' : Option Addr) (c' : Nat), k ≤ N ∧ i = .int .i64 k ∧ o = .slice A' k c' ∧ Own .u32 wr w.heap.size 22 A' k c' (cutF k (subF m a b)) ∧ Below w.heap.size w wr) (fun _ i _ => N - (intOf i).toNat)
    case atStart => exact ⟨0, none, 0, Nat.zero_le _, rfl, rfl, Own.congr (Own.nil _ _ _ _) (fun j => (cutF_out (Nat.zero_le _)).symm), Below.refl _ _⟩
    case round =>
      obtain ⟨k, A', c', hk, rfl, rfl, hown, hbel⟩ := hrel
      have hxm := haa k
      have hym := hbb k
      by_cases hkN : k < N
      · have HA := Lib.hid (at_any A n ca a k wr lo hi (ha.below hbel hhi) (by omega) (by omega) (fun j => by have := haa j; omega))
        have HB := Lib.hid (at_any B nb cb b k wr lo2 hi2 (hb.below hbel hhi2) (by omega) (by omega) (fun j => by have := hbb j; omega))
        have hF : subF m a b k = (a k + m - b k) % m := rfl
        obtain ⟨x, hx⟩ : ∃ x, a k = x := ⟨_, rfl⟩
        obtain ⟨y, hy⟩ : ∃ y, b k = y := ⟨_, rfl⟩
        rw [Int.toNat_natCast, hx] at HA
        rw [Int.toNat_natCast, hy] at HB
        rw [hx, hy] at hF
        rw [hx] at hxm
        rw [hy] at hym
        have hd1 : 0 ≤ ((x : Int) + (m : Int) - (y : Int)) % (m : Int) := Int.emod_nonneg _ (by omega)
        have hd2 : ((x : Int) + (m : Int) - (y : Int)) % (m : Int) < (m : Int) := Int.emod_lt_of_pos _ (by omega)
        have hV : Value.int .u32 (((x : Int) + (m : Int) - (y : Int)) % (m : Int)) = .int .u32 ((subF m a b k : Nat) : Int) := by rw [hF, subF_val hym]
        have HV := Lib.hid hV
        have HO1 := Lib.hid hown
        have hsz := hbel.size
        clear hx hy hF hV hown ha hb haa hbb
        go_wp2_with (first
          | (go_at_call_of 68 A; refine HA.out.mono ?_; rintro e w' ⟨rfl, rfl⟩)
          | (go_at_call_of 68 B; refine HB.out.mono ?_; rintro e w' ⟨rfl, rfl⟩)
          | (at_builtin; refine wpl_append rfl _ _ _ rfl e32 rfl (HO1.out.alloc _) rfl (sq_one (x := subF m a b k) (lo := 0) (hi := wr.heap.size + 1) HV.out (Nat.zero_le _) (Nat.lt_succ_self _)) (cutF (k + 1) (subF m a b)) (fun j hj => cutF_lt hj) cutF_add (by unfold maxLen; omega) (by omega) (by simp; omega) ?_; intro A2 c2 w2 hown2 hg2 hb2 hat2))
        go_roundw
        case rel => exact ⟨k + 1, A2, c2, by omega, by go_num, rfl, hown2, (hbel.alloc hsz _).trans hb2⟩
        case measure => simp [intOf]; omega
      · obtain rfl : k = N := by omega
        have hcut : cutF k (subF m a b) = subF m a b := funext (cutF_all fun j hj => HO.out j (by omega) (by omega))
        rw [hcut] at hown
        have HT := Lib.hid (rtrim_any A' k c' (subF m a b) wr _ _ (hown.sq (Nat.le_refl _)) hown.le (by omega))
        have hsz := hbel.size
        clear hcut hown ha hb haa hbb hxm hym
        go_wp2_with (go_at_call 60; refine HT.out.mono ?_; rintro e w' ⟨A3, c3, rfl, hle3, hsq3, hb3⟩)
        go_ret
        exact ⟨A3, c3, rfl, hle3, hsq3.wide hsz (Nat.le_refl _), hbel.trans (hb3.mono hsz)⟩

def TimesIn (m k : Nat) (a b : Nat → Nat) (s i : Value) : Prop := ∃ t : Nat, t ≤ k + 1 ∧ i = .int .i64 t ∧ s = .int .u64 ((sumN (fun t => a t * b (k - t)) t % m : Nat) : Int)

set_option maxHeartbeats 1000000 in
theorem times_any (m n nb ca cb : Nat) (A B : Option Addr) (a b : Nat → Nat) (w : World) (lo hi lo2 hi2 : Nat) (ha : Sq .u32 w lo hi A n a) (hb : Sq .u32 w lo2 hi2 B nb b)
    (hm : 0 < m) (hm2 : m ≤ 2147483647) (haa : ∀ j, a j < m) (hbb : ∀ j, b j < m) (hn : n ≤ 2000) (hnb : nb ≤ 2000) (hhi : hi ≤ w.heap.size) (hhi2 : hi2 ≤ w.heap.size) :
    Calls Try.prog 59 #[.int .u32 m, .slice A n ca, .slice B nb cb] w (RetSl w (tl (mulF m a b) (n + nb)) (mulF m a b)) := by
  obtain ⟨N, hN⟩ : ∃ N, N = n + nb := ⟨_, rfl⟩
  rw [← hN]
  have hN1 : N ≤ n + nb := by omega
  have hN2 : n + nb ≤ N := by omega
  have HO := Lib.hid (fun j (hj : N ≤ j) => mulF_ext (m := m) ha.1 hb.1 j (by omega))
  clear hN
  go_enter Try.func59, Try.ntmps59
  go_wp2
  go_loopw [7, 8] (fun o i wr => ∃ (k : Nat) (A' : Option Addr) (c' : Nat), k ≤ N ∧ i = .int .i64 k ∧ o = .slice A' k c' ∧ Own .u32 wr w.heap.size 22 A' k c' (cutF k (mulF m a b)) ∧ Below w.heap.size w wr) (fun _ i _ => N - (intOf i).toNat)
  case atStart => exact ⟨0, none, 0, Nat.zero_le _, rfl, rfl, Own.congr (Own.nil _ _ _ _) (fun j => (cutF_out (Nat.zero_le _)).symm), Below.refl _ _⟩
  case round =>
    obtain ⟨k, A', c', hk, rfl, rfl, hown, hbel⟩ := hrel
    by_cases hkN : k < N
    · have HO1 := Lib.hid hown
      clear hown
      have hdec : decide ((k : Int) < (n : Int) + (nb : Int)) = true := decide_eq_true (by omega)
      go_wp2
      clear hdec
      go_loop [9, 10] (TimesIn m k a b) (fun _ i => k + 1 - (intOf i).toNat)
      case atStart => exact ⟨0, Nat.zero_le _, rfl, by simp [sumN]⟩
      case round =>
        obtain ⟨t, ht, rfl, rfl⟩ := hrel
        obtain ⟨z, hz⟩ : ∃ z, sumN (fun t => a t * b (k - t)) t % m = z := ⟨_, rfl⟩
        have hzm : sumN (fun t => a t * b (k - t)) t % m < m := Nat.mod_lt _ hm
        rw [hz] at hzm
        rw [hz]
        by_cases htk : t ≤ k
        · have HA := Lib.hid (at_any A n ca a t wr lo hi (ha.below hbel hhi) (by omega) (by omega) (fun j => by have := haa j; omega))
          have HB := Lib.hid (at_any B nb cb b ((k : Int) - (t : Int)) wr lo2 hi2 (hb.below hbel hhi2) (by omega) (by omega) (fun j => by have := hbb j; omega))
          have hxm := haa t
          have hym := hbb (k - t)
          obtain ⟨x, hx⟩ : ∃ x, a t = x := ⟨_, rfl⟩
          obtain ⟨y, hy⟩ : ∃ y, b (k - t) = y := ⟨_, rfl⟩
          rw [Int.toNat_natCast, hx] at HA
          rw [show ((k : Int) - (t : Int)).toNat = k - t from by omega, hy] at HB
          rw [hx] at hxm
          rw [hy] at hym
          have hxy2 := mul_lt_int hxm hym hm2
          have hxy3 : 0 ≤ (x : Int) * (y : Int) := Int.mul_nonneg (Int.natCast_nonneg _) (Int.natCast_nonneg _)
          have hd1 : 0 ≤ ((z : Int) + (x : Int) * (y : Int)) % (m : Int) := Int.emod_nonneg _ (by omega)
          have hd2 : ((z : Int) + (x : Int) * (y : Int)) % (m : Int) < (m : Int) := Int.emod_lt_of_pos _ (by omega)
          have hS : sumN (fun t => a t * b (k - t)) (t + 1) % m = (z + x * y) % m := by
            rw [sumN, ← hz, ← hx, ← hy, Nat.mod_add_mod]
          have HS := Lib.hid hS
          clear hx hy hz hS ha hb haa hbb
          go_wp2_with (first
            | (go_at_call_of 68 A; refine HA.out.mono ?_; rintro e w' ⟨rfl, rfl⟩)
            | (go_at_call_of 68 B; refine HB.out.mono ?_; rintro e w' ⟨rfl, rfl⟩))
          go_round
          case rel =>
            refine ⟨t + 1, by omega, by go_num, ?_⟩
            rw [HS.out]
            simp
          case measure => simp [intOf]; omega
        · obtain rfl : t = k + 1 := by omega
          have hV : Value.int .u32 (z : Int) = .int .u32 ((mulF m a b k : Nat) : Int) := by rw [← hz]; rfl
          have HV := Lib.hid hV
          have hsz := hbel.size
          clear hz hV ha hb haa hbb
          go_wp2_with (at_builtin; refine wpl_append rfl _ _ _ rfl e32 rfl (HO1.out.alloc _) rfl (sq_one (x := mulF m a b k) (lo := 0) (hi := wr.heap.size + 1) HV.out (Nat.zero_le _) (Nat.lt_succ_self _)) (cutF (k + 1) (mulF m a b)) (fun j hj => cutF_lt hj) cutF_add (by unfold maxLen; omega) (by omega) (by simp; omega) ?_; intro A2 c2 w2 hown2 hg2 hb2 hat2)
          go_roundw
          case rel => exact ⟨k + 1, A2, c2, by omega, by go_num, rfl, hown2, (hbel.alloc hsz _).trans hb2⟩
          case measure => simp [intOf]; omega
    · obtain rfl : k = N := by omega
      have hcut : cutF k (mulF m a b) = mulF m a b := funext (cutF_all HO.out)
      rw [hcut] at hown
      have HT := Lib.hid (rtrim_any A' k c' (mulF m a b) wr _ _ (hown.sq (Nat.le_refl _)) hown.le (by omega))
      have hsz := hbel.size
      clear hcut hown ha hb haa hbb
      go_wp2_with (go_at_call 60; refine HT.out.mono ?_; rintro e w' ⟨A3, c3, rfl, hle3, hsq3, hb3⟩)
      go_ret
      exact ⟨A3, c3, rfl, hle3, hsq3.wide hsz (Nat.le_refl _), hbel.trans (hb3.mono hsz)⟩
end Go.Proofs.Ytmidpholmgmdpaa

namespace Go.Proofs.Ytmidpholmgmdpaa
open Go.RowKit

set_option maxHeartbeats 1000000 in
theorem rinverse_any (a m : Nat) (w : World) (ha : a < m) (hm : 2 ≤ m) (hm2 : m ≤ 2147483647) :
    Calls Try.prog 58 #[.int .u32 a, .int .u32 m] w (InvBool a m w) := by
  go_enter Try.func58, Try.ntmps58
  go_wp2
  go_loop [6, 7, 8, 9] (EuState m a) (fun _ s _ _ => (intOf s).toNat)
  case atStart => exact ⟨m, a, 0, 1, EI.start ha, rfl, rfl, rfl, rfl⟩
  case round =>
    obtain ⟨x, y, u, v, hei, rfl, rfl, rfl, rfl⟩ := hrel
    by_cases hy : 0 < y
    · have hstep := Lib.hid (hei.step hy)
      obtain ⟨b1, b2, b3, b4, b5⟩ := hei.bounds hy
      obtain ⟨b6, b7⟩ := quo_bounds x y
      have hle := hei.le
      have htop := hei.top
      have hsm := hei.small
      have h5 := Lib.hid b5
      have hyz : ((y : Int) != 0) = true := by simp; omega
      have hmodlt := Nat.mod_lt x hy
      clear b5 hei
      go_wp2
      go_round
      case rel => exact ⟨y, x % y, v, _, hstep.out, rfl, by rw [← h5.out], rfl, rfl⟩
      case measure =>
        have := h5.out
        simp [intOf]
        omega
    · obtain rfl : y = 0 := by omega
      have hg := hei.end_
      by_cases hx1 : x = 1
      · subst hx1
        have hi := hei.inv hm
        have hsm := hei.small
        by_cases hu : u < 0
        · rw [if_pos hu] at hi
          obtain ⟨i1, i2, i3⟩ := hi
          have H3 := Lib.hid i3
          have HG := Lib.hid hg
          clear hei hg i3
          go_wp2
          go_ret2
          exact ⟨rfl, .inl ⟨HG.out.symm, by rw [H3.out]; rfl⟩⟩
        · rw [if_neg hu] at hi
          obtain ⟨i1, i2, i3⟩ := hi
          have H3 := Lib.hid i3
          have HG := Lib.hid hg
          clear hei hg i3
          go_wp2
          go_ret2
          exact ⟨rfl, .inl ⟨HG.out.symm, by rw [H3.out]; rfl⟩⟩
      · have hxz : ((x : Int) != 1) = true := by simp; omega
        have hle := hei.le
        have HG := Lib.hid hg
        clear hei hg
        go_wp2
        go_ret2
        exact ⟨rfl, .inr ⟨by rw [← HG.out]; exact hx1, rfl⟩⟩

end Go.Proofs.Ytmidpholmgmdpaa

namespace Go.Proofs.Ytmidpholmgmdpaa
open Go.RowKit

/-- the inverse of the last element, and whether there is one -/
def unitF (m n : Nat) (f : Nat → Nat) : Nat × Bool := if n = 0 then (0, false) else if Nat.gcd m (f (n - 1)) = 1 then (invN (f (n - 1)) m, true) else (0, false)

theorem unitF_nil {m : Nat} {f : Nat → Nat} : unitF m 0 f = (0, false) := rfl
theorem unitF_yes {m n : Nat} {f : Nat → Nat} (hn : 0 < n) (h : Nat.gcd m (f (n - 1)) = 1) : unitF m n f = (invN (f (n - 1)) m, true) := by
  unfold unitF
  rw [if_neg (by omega), if_pos h]
theorem unitF_no {m n : Nat} {f : Nat → Nat} (hn : 0 < n) (h : Nat.gcd m (f (n - 1)) ≠ 1) : unitF m n f = (0, false) := by
  unfold unitF
  rw [if_neg (by omega), if_neg h]
/-- where there is one: what it is -/
theorem unitF_true {m n iv : Nat} {f : Nat → Nat} (h : unitF m n f = (iv, true)) (hm : 2 ≤ m) (hf : f (n - 1) < m) : 0 < n ∧ iv < m ∧ iv * f (n - 1) % m = 1 % m := by
  unfold unitF at h
  split at h
  · cases h
  · split at h
    · rename_i h1 h2
      injection h with h3 _
      subst h3
      exact ⟨by omega, (invN_spec hf hm h2).1, (invN_spec hf hm h2).2⟩
    · cases h

theorem inv_yes {a m : Nat} {w : World} {f : Nat} {args : Array Value} (h : Calls Try.prog f args w (InvBool a m w)) (hg : Nat.gcd m a = 1) : Calls Try.prog f args w (RetP w (.tuple #[.int .u32 (invN a m : Nat), .bool true])) :=
  h.mono fun _ _ ⟨h1, h2⟩ => h2.elim (fun h => ⟨h.2, h1⟩) fun h => absurd hg h.1
theorem inv_no {a m : Nat} {w : World} {f : Nat} {args : Array Value} (h : Calls Try.prog f args w (InvBool a m w)) (hg : Nat.gcd m a ≠ 1) : Calls Try.prog f args w (RetP w (.tuple #[.int .u32 0, .bool false])) :=
  h.mono fun _ _ ⟨h1, h2⟩ => h2.elim (fun h => absurd h.1 hg) fun h => ⟨h.2, h1⟩

end Go.Proofs.Ytmidpholmgmdpaa

namespace Go.Proofs.Ytmidpholmgmdpaa
open Go.RowKit

theorem Own.set {k : IntKind} {w : World} {base e n c g : Nat} {f : Nat → Nat} (h : Own k w base e (some ⟨g, 0, none⟩) n c f) {j : Nat} (hj : j < n) (x : Nat) :
    Own k (w.setCell ⟨g, j, none⟩ (.int k (x : Int))) base e (some ⟨g, 0, none⟩) n c (fun i => if i = j then x else f i) := by
  have hx : ∀ i, n ≤ i → (if i = j then x else f i) = 0 := fun i hi => by rw [if_neg (by omega)]; exact h.1 i hi
  rcases h.2.2 with ⟨hv, _⟩ | ⟨g', cap, cur, hv, hb, hh, hnc, hm, hs, ht⟩
  · cases hv
  · injection hv with h1 h2 h3
    injection h1 with h1
    injection h1 with h1
    subst h1 h3
    refine ⟨hx, by simp, .inr ⟨g, c, cur.setIfInBounds j (.int k (x : Int)), rfl, hb, ?_, hnc, hm, by simpa using hs, ?_⟩⟩
    · simp [World.setCell, Array.getElem?_modify, hh]
    · apply List.ext_getElem?
      intro i
      by_cases hi : i < n
      · have e1 : cur.toList[i]? = (cur.toList.take (n * 1))[i]? := by rw [List.getElem?_take_of_lt (by omega)]
        rw [List.getElem?_take_of_lt (by omega), Array.getElem?_toList, Array.getElem?_setIfInBounds, List.getElem?_map, List.getElem?_range hi]
        by_cases hij : i = j
        · subst hij
          simp [ku]
          omega
        · rw [if_neg (fun h => hij h.symm), ← Array.getElem?_toList, e1, ht]
          simp [hi, ku, hij]
      · rw [List.getElem?_eq_none (by simp; omega), List.getElem?_eq_none (by simp; omega)]

/-- two new lists -/
def RetSl2 (w : World) (n1 : Nat) (F1 : Nat → Nat) (n2 : Nat) (F2 : Nat → Nat) (e : Ending) (w' : World) : Prop :=
  ∃ A1 c1 A2 c2, e = .returned (.tuple #[.slice A1 n1 c1, .slice A2 n2 c2]) ∧ n1 ≤ c1 ∧ n2 ≤ c2 ∧ Sq .u32 w' w.heap.size w'.heap.size A1 n1 F1 ∧ Sq .u32 w' w.heap.size w'.heap.size A2 n2 F2 ∧ Below w.heap.size w w'

/-- how many steps a division takes -/
def dL (n nb : Nat) : Nat := n + 1 - nb

theorem dC_val {m x iv c : Nat} (_hm : 0 < m) (hc : c = x * iv % m) : ((x : Int) * (iv : Int)) % (m : Int) = (c : Int) := by subst hc; simp

/-- what holds at the head of the outer loop -/
def DivOut (m nb iv n q : Nat) (a b : Nat → Nat) (w : World) (g c : Nat) (i : Value) (wr : World) : Prop :=
  ∃ (t : Nat) (R : Nat → Nat), t ≤ dL n nb ∧ i = .int .i64 ((t : Int) - 1) ∧ Own .u32 wr w.heap.size 22 (some ⟨g, 0, none⟩) n c R ∧ wr.rowIs q 22 (dL n nb) (ku .u32 fun j => if t ≤ j then dQ m nb b iv (dL n nb) a j else 0) ∧
    dR m nb b iv t R = dR m nb b iv (dL n nb) a ∧ (∀ j, j < t → dQ m nb b iv t R j = dQ m nb b iv (dL n nb) a j) ∧ (∀ j, R j < m) ∧ Below w.heap.size w wr ∧ q < wr.heap.size

/-- what holds at the head of the inner loop -/
def DivIn (m nb iv n q : Nat) (a b : Nat → Nat) (w : World) (g c s : Nat) (R : Nat → Nat) (i : Value) (wr : World) : Prop :=
  ∃ k : Nat, k ≤ nb ∧ i = .int .i64 k ∧ Own .u32 wr w.heap.size 22 (some ⟨g, 0, none⟩) n c (fun j => if s ≤ j ∧ j < s + k then dStep m nb b iv s R j else R j) ∧
    wr.rowIs q 22 (dL n nb) (ku .u32 fun j => if s ≤ j then dQ m nb b iv (dL n nb) a j else 0) ∧ Below w.heap.size w wr ∧ q < wr.heap.size

theorem sub_mul_lt {m c y : Nat} (hc : c < m) (hy : y < m) (hm : m ≤ 2147483647) : 0 ≤ ((m : Int) - (c : Int)) * (y : Int) ∧ ((m : Int) - (c : Int)) * (y : Int) ≤ 4611686014132420609 := by
  refine ⟨Int.mul_nonneg (by omega) (by omega), ?_⟩
  have h1 := Int.mul_le_mul (show ((m : Int) - (c : Int)) ≤ 2147483647 by omega) (show (y : Int) ≤ 2147483647 by omega) (by omega) (by omega)
  omega

end Go.Proofs.Ytmidpholmgmdpaa

namespace Go.Proofs.Ytmidpholmgmdpaa
open Go.RowKit

theorem sub_mul_mod {m x c y : Nat} (hm : 0 < m) (hc : c ≤ m) : (x + m - c * y % m) % m = (x + (m - c) * y) % m := by
  have h1 : c * y % m < m := Nat.mod_lt _ hm
  have key : ((x + m - c * y % m) + c * y) % m = ((x + (m - c) * y) + c * y) % m := by
    have e1 : (x + (m - c) * y) + c * y = x + m * y := by rw [Nat.add_assoc, ← Nat.add_mul, Nat.sub_add_cancel hc]
    rw [e1, Nat.add_mul_mod_self_left]
    have e2 : c * y = m * (c * y / m) + c * y % m := (Nat.div_add_mod _ _).symm
    have e3 : (x + m - c * y % m) + c * y = x + m * (1 + c * y / m) := by rw [Nat.mul_add, Nat.mul_one]; omega
    rw [e3, Nat.add_mul_mod_self_left]
  have k2 : ((x + m - c * y % m) % m + c * y % m) % m = ((x + (m - c) * y) % m + c * y % m) % m := by rw [← Nat.add_mod, key, Nat.add_mod]
  have a1 : (x + m - c * y % m) % m < m := Nat.mod_lt _ hm
  have a2 : (x + (m - c) * y) % m < m := Nat.mod_lt _ hm
  generalize (x + m - c * y % m) % m = p at *
  generalize (x + (m - c) * y) % m = q at *
  generalize c * y % m = z at *
  rcases Nat.lt_or_ge (p + z) m with h | h <;> rcases Nat.lt_or_ge (q + z) m with h' | h'
  · rw [Nat.mod_eq_of_lt h, Nat.mod_eq_of_lt h'] at k2; omega
  · rw [Nat.mod_eq_of_lt h, Nat.mod_eq_sub_mod h', Nat.mod_eq_of_lt (by omega)] at k2; omega
  · rw [Nat.mod_eq_of_lt h', Nat.mod_eq_sub_mod h, Nat.mod_eq_of_lt (by omega)] at k2; omega
  · rw [Nat.mod_eq_sub_mod h', Nat.mod_eq_sub_mod h, Nat.mod_eq_of_lt (by omega), Nat.mod_eq_of_lt (by omega)] at k2; omega

def monoF (c s : Nat) : Nat → Nat := fun j => if j = s then c else 0

theorem mulF_mono {m c s : Nat} {b : Nat → Nat} (j : Nat) : mulF m (monoF c s) b j = if s ≤ j then c * b (j - s) % m else 0 := by
  unfold mulF
  have key : ∀ n, sumN (fun t => monoF c s t * b (j - t)) n = if s < n then c * b (j - s) else 0 := by
    intro n
    induction n with
    | zero => rfl
    | succ n ih =>
      rw [sumN, ih]
      unfold monoF
      by_cases h : n = s
      · subst h
        rw [if_neg (Nat.lt_irrefl n), if_pos rfl, if_pos (Nat.lt_succ_self n), Nat.zero_add]
      · rw [if_neg h, Nat.zero_mul, Nat.add_zero]
        by_cases h2 : s < n
        · rw [if_pos h2, if_pos (by omega)]
        · rw [if_neg h2, if_neg (by omega)]
  rw [key]
  by_cases h : s ≤ j
  · rw [if_pos (by omega), if_pos h]
  · rw [if_neg (by omega), if_neg h, Nat.zero_mod]

/-- the reference's step is divide's -/
theorem subF_mono {m nb iv s : Nat} {b R : Nat → Nat} (hm : 0 < m) (hR : ∀ j, R j < m) (j : Nat) : subF m R (mulF m (monoF (dC m nb iv s R) s) b) j = dStep m nb b iv s R j := by
  unfold subF dStep
  rw [mulF_mono]
  split
  · exact sub_mul_mod hm (Nat.le_of_lt (Nat.mod_lt _ hm))
  · rw [Nat.sub_zero, Nat.add_mod_right, Nat.mod_eq_of_lt (hR j)]

theorem tl_tl (f : Nat → Nat) (n : Nat) : tl f (tl f n) = tl f n := tl_unique (Nat.le_refl _) (fun j h1 h2 => by omega) (tl_last f n)

/-- what holds at the loop's head -/
def SplitR (m nb iv n q : Nat) (a b : Nat → Nat) (w : World) (r : Value) (wr : World) : Prop :=
  ∃ (n' c' : Nat) (R : Nat → Nat) (A' : Option Addr), r = .slice A' n' c' ∧ n' ≤ n ∧ n' ≤ c' ∧ Sq .u32 wr w.heap.size wr.heap.size A' n' R ∧ tl R n' = n' ∧ (∀ j, R j < m) ∧
    wr.rowIs q 22 (n + 1) (ku .u32 fun j => if dL n' nb ≤ j then dQ m nb b iv (dL n nb) a j else 0) ∧
    dR m nb b iv (dL n' nb) R = dR m nb b iv (dL n nb) a ∧ (∀ j, j < dL n' nb → dQ m nb b iv (dL n' nb) R j = dQ m nb b iv (dL n nb) a j) ∧ Below w.heap.size w wr ∧ q < wr.heap.size ∧ (0 < n' → ∀ b off, A' = some ⟨b, off, none⟩ → b ≠ q)

theorem Sq.setOther {k : IntKind} {w : World} {lo hi n : Nat} {A : Option Addr} {f : Nat → Nat} {p : Addr} {v : Value} (h : Sq k w lo hi A n f) (hne : ∀ b off, A = some ⟨b, off, none⟩ → b ≠ p.block) : Sq k (w.setCell p v) lo hi A n f :=
  ⟨h.1, fun hn => by
    obtain ⟨b, off, e, h1, h2, h3⟩ := h.2 hn
    exact ⟨b, off, e, h1, h2, fun j hj => (World.cell?_setCell_other w p _ v (fun e2 => hne b off e (by rw [e2]))).trans (h3 j hj)⟩⟩

theorem dL_pos {n nb : Nat} (h : nb ≤ n) : dL n nb = n - nb + 1 := by unfold dL; omega

/-- one round of the loop, said of the functions alone -/
theorem split_step {m nb iv n n' s : Nat} {a b R R' : Nat → Nat} (hm : 0 < m) (hnb : 0 < nb) (hiv : iv * b (nb - 1) % m = 1 % m) (hb : ∀ j, nb ≤ j → b j = 0) (hR : ∀ j, R j < m) (hRz : ∀ j, n' ≤ j → R j = 0)
    (hs : n' = s + nb) (hR' : R' = dStep m nb b iv s R) (h1 : dR m nb b iv (dL n' nb) R = dR m nb b iv (dL n nb) a) (h2 : ∀ j, j < dL n' nb → dQ m nb b iv (dL n' nb) R j = dQ m nb b iv (dL n nb) a j) :
    tl R' n' < n' ∧ (∀ j, tl R' n' ≤ j → R' j = 0) ∧ dR m nb b iv (dL (tl R' n') nb) R' = dR m nb b iv (dL n nb) a ∧ (∀ j, j < dL (tl R' n') nb → dQ m nb b iv (dL (tl R' n') nb) R' j = dQ m nb b iv (dL n nb) a j) ∧
      (∀ j, dL (tl R' n') nb ≤ j → j < s → dQ m nb b iv (dL n nb) a j = 0) ∧ dQ m nb b iv (dL n nb) a s = dC m nb iv s R ∧ dL (tl R' n') nb ≤ s := by
  have hL : dL n' nb = s + 1 := by rw [dL_pos (by omega)]; omega
  rw [hL] at h1 h2
  have hz : ∀ j, n' ≤ j → R' j = 0 := fun j hj => by rw [hR', dStep_out hb hR (by omega)]; exact hRz j hj
  have hlead : R' (n' - 1) = 0 := by rw [hR', show n' - 1 = s + nb - 1 from by omega]; exact dStep_lead hm hnb hiv hR
  have hlt : tl R' n' < n' := by
    rcases Nat.lt_or_ge (tl R' n') n' with h | h
    · exact h
    · have h3 := tl_le R' n'
      have h4 : tl R' n' = n' := by omega
      have h5 := tl_last R' n' (by omega)
      rw [h4] at h5
      exact absurd hlead h5
  have hz2 : ∀ j, tl R' n' ≤ j → R' j = 0 := fun j hj => by
    rcases Nat.lt_or_ge j n' with h | h
    · exact tl_zero R' n' j hj h
    · exact hz j h
  have hRm' : ∀ j, R' j < m := fun j => by rw [hR']; exact dStep_lt hm hR j
  have hk : dL (tl R' n') nb ≤ s := by unfold dL; omega
  obtain ⟨d, hd⟩ := Nat.exists_eq_add_of_le hk
  have hskip := dR_skip (b := b) (iv := iv) (k := dL (tl R' n') nb) d R' hRm' (fun j hj => hz2 j (by unfold dL at hj; omega)) hnb
  rw [← hd] at hskip
  simp only [dR] at h1
  rw [← hR'] at h1
  have h2' : ∀ j, j < s → dQ m nb b iv s R' j = dQ m nb b iv (dL n nb) a j := fun j hj => by
    rw [← h2 j (by omega)]
    simp only [dQ]
    rw [if_neg (by omega), ← hR']
  refine ⟨hlt, hz2, by rw [← hskip.1]; exact h1, fun j hj => by rw [← hskip.2]; exact h2' j (by omega), fun j h3 h4 => ?_, ?_, hk⟩
  · rw [← h2' j h4, hskip.2]
    exact dQ_out _ _ j h3
  · rw [← h2 s (by omega)]
    simp only [dQ, if_true]

end Go.Proofs.Ytmidpholmgmdpaa

namespace Go.Proofs.Ytmidpholmgmdpaa
open Go.RowKit

/-- the error and the results of a division -/
def dvE (m n : Nat) (a : Nat → Nat) (nb : Nat) (b : Nat → Nat) : Nat := if chk2 m n a nb b = 0 then (if (unitF m nb b).2 = true then 0 else 7) else chk2 m n a nb b
def dvQ (m n : Nat) (a : Nat → Nat) (nb : Nat) (b : Nat → Nat) : Nat → Nat := if dvE m n a nb b = 0 then dQ m nb b (unitF m nb b).1 (dL n nb) a else fun _ => 0
def dvR (m n : Nat) (a : Nat → Nat) (nb : Nat) (b : Nat → Nat) : Nat → Nat := if dvE m n a nb b = 0 then dR m nb b (unitF m nb b).1 (dL n nb) a else fun _ => 0

/-- two new lists and an error -/
def RetSl3 (w : World) (n1 : Nat) (F1 : Nat → Nat) (n2 : Nat) (F2 : Nat → Nat) (er : Nat) (e : Ending) (w' : World) : Prop :=
  ∃ A1 c1 A2 c2, e = .returned (.tuple #[.slice A1 n1 c1, .slice A2 n2 c2, .int .i64 (er : Int)]) ∧ n1 ≤ c1 ∧ n2 ≤ c2 ∧ Sq .u32 w' w.heap.size w'.heap.size A1 n1 F1 ∧ Sq .u32 w' w.heap.size w'.heap.size A2 n2 F2 ∧ Below w.heap.size w w'

def RetDv (w : World) (m n : Nat) (a : Nat → Nat) (nb : Nat) (b : Nat → Nat) : Ending → World → Prop :=
  RetSl3 w (tl (dvQ m n a nb b) (dL n nb)) (dvQ m n a nb b) (tl (dvR m n a nb b) n) (dvR m n a nb b) (dvE m n a nb b)

theorem retDv_err {w w' : World} {m n nb x : Nat} {a b : Nat → Nat} (hx : dvE m n a nb b = x) (h0 : x ≠ 0) (hb : Below w.heap.size w w') : RetDv w m n a nb b (.returned (.tuple #[.slice none 0 0, .slice none 0 0, .int .i64 (x : Int)])) w' := by
  have e1 : dvQ m n a nb b = fun _ => 0 := by unfold dvQ; rw [hx, if_neg h0]
  have e2 : dvR m n a nb b = fun _ => 0 := by unfold dvR; rw [hx, if_neg h0]
  unfold RetDv
  rw [e1, e2, hx, tl_zeros (fun _ => rfl), tl_zeros (fun _ => rfl)]
  exact ⟨none, 0, none, 0, rfl, Nat.le_refl _, Nat.le_refl _, Sq.nil _ _ _ _ _, Sq.nil _ _ _ _ _, hb⟩
theorem retDv_ok {w w0 w' : World} {m n nb iv : Nat} {a b : Nat → Nat} {x y : Value} (hc : chk2 m n a nb b = 0) (hu : unitF m nb b = (iv, true)) (hb : Below w.heap.size w w0)
    (h : RetSl2 w0 (tl (dQ m nb b iv (dL n nb) a) (dL n nb)) (dQ m nb b iv (dL n nb) a) (tl (dR m nb b iv (dL n nb) a) n) (dR m nb b iv (dL n nb) a) (.returned (.tuple #[x, y])) w') :
    RetDv w m n a nb b (.returned (.tuple #[x, y, .int .i64 0])) w' := by
  have e0 : dvE m n a nb b = 0 := by unfold dvE; rw [if_pos hc, hu, if_pos rfl]
  have e1 : dvQ m n a nb b = dQ m nb b iv (dL n nb) a := by unfold dvQ; rw [if_pos e0, hu]
  have e2 : dvR m n a nb b = dR m nb b iv (dL n nb) a := by unfold dvR; rw [if_pos e0, hu]
  unfold RetDv
  rw [e0, e1, e2]
  obtain ⟨A1, c1, A2, c2, he, h1, h2, h3, h4, h5⟩ := h
  injection he with he
  injection he with he
  injection he with he
  injection he with hx he
  injection he with hy _
  subst hx hy
  exact ⟨A1, c1, A2, c2, rfl, h1, h2, h3.wide hb.size (Nat.le_refl _), h4.wide hb.size (Nat.le_refl _), hb.trans (h5.mono hb.size)⟩

end Go.Proofs.Ytmidpholmgmdpaa

namespace Go.Proofs.Ytmidpholmgmdpaa
open Go.RowKit

theorem tl_of_last {n : Nat} {f : Nat → Nat} (h : 0 < n → f (n - 1) ≠ 0) : tl f n = n := tl_unique (Nat.le_refl _) (fun j h1 h2 => by omega) h

/-- a new list and an error -/
def RetSlE (w : World) (n : Nat) (F : Nat → Nat) (er : Nat) (e : Ending) (w' : World) : Prop :=
  ∃ A c, e = .returned (.tuple #[.slice A n c, .int .i64 (er : Int)]) ∧ n ≤ c ∧ Sq .u32 w' w.heap.size w'.heap.size A n F ∧ Below w.heap.size w w'

/-- the error and the result of a product -/
def mlE (m n : Nat) (a : Nat → Nat) (nb : Nat) (b : Nat → Nat) : Nat := if chk2 m n a nb b = 0 then (if 0 < n ∧ 0 < nb ∧ 257 < n + nb then 3 else 0) else chk2 m n a nb b
def mlF (m n : Nat) (a : Nat → Nat) (nb : Nat) (b : Nat → Nat) : Nat → Nat := if mlE m n a nb b = 0 then mulF m a b else fun _ => 0
def RetMl (w : World) (m n : Nat) (a : Nat → Nat) (nb : Nat) (b : Nat → Nat) : Ending → World → Prop := RetSlE w (tl (mlF m n a nb b) (n + nb)) (mlF m n a nb b) (mlE m n a nb b)

theorem retMl_err {w w' : World} {m n nb x : Nat} {a b : Nat → Nat} (hx : mlE m n a nb b = x) (h0 : x ≠ 0) (hb : Below w.heap.size w w') : RetMl w m n a nb b (.returned (.tuple #[.slice none 0 0, .int .i64 (x : Int)])) w' := by
  have e1 : mlF m n a nb b = fun _ => 0 := by unfold mlF; rw [hx, if_neg h0]
  unfold RetMl
  rw [e1, hx, tl_zeros (fun _ => rfl)]
  exact ⟨none, 0, rfl, Nat.le_refl _, Sq.nil _ _ _ _ _, hb⟩
theorem retMl_ok {w w0 w' : World} {m n nb : Nat} {a b : Nat → Nat} {x : Value} (hE : mlE m n a nb b = 0) (hb : Below w.heap.size w w0) (h : RetSl w0 (tl (mulF m a b) (n + nb)) (mulF m a b) (.returned x) w') :
    RetMl w m n a nb b (.returned (.tuple #[x, .int .i64 0])) w' := by
  have e1 : mlF m n a nb b = mulF m a b := by unfold mlF; rw [if_pos hE]
  unfold RetMl
  rw [e1, hE]
  obtain ⟨A, c, he, h1, h2, h3⟩ := h
  injection he with he
  subst he
  exact ⟨A, c, rfl, h1, h2.wide hb.size (Nat.le_refl _), hb.trans (h3.mono hb.size)⟩

theorem vals_lt {m n : Nat} {f : Nat → Nat} (h : chk m n f = 0) (hz : ∀ j, n ≤ j → f j = 0) : ∀ j, f j < m := fun j => by
  obtain ⟨m1, _, _, n2, _⟩ := chk_zero h
  rcases Nat.lt_or_ge j n with h | h
  · exact n2 j h
  · rw [hz j h]; omega

end Go.Proofs.Ytmidpholmgmdpaa

namespace Go.Proofs.Ytmidpholmgmdpaa
open Go.RowKit
set_option linter.unusedVariables false

/-- a written-out list -/
def litF (l : List Nat) : Nat → Nat := fun j => l.getD j 0

theorem sq_list (k : IntKind) (w : World) (e lo hi : Nat) (l : List Nat) (hl : lo ≤ w.heap.size) (hh : w.heap.size < hi) :
    Sq k (w.alloc (.cells (l.map fun (x : Nat) => Value.int k (x : Int)).toArray e)) lo hi (some ⟨w.heap.size, 0, none⟩) l.length (litF l) :=
  sq_new (litF l) hl hh (fun j hj => by unfold litF; rw [List.getD_eq_getElem?_getD, List.getElem?_eq_none hj]; rfl) fun j hj => by
    rw [List.getElem?_toArray, List.getElem?_map, List.getElem?_eq_getElem hj]
    simp [litF, hj]

theorem Sq.fcongr {k : IntKind} {w : World} {lo hi n n' : Nat} {A : Option Addr} {f g : Nat → Nat} (h : Sq k w lo hi A n f) (hn : n = n') (hz : ∀ j, n ≤ j → g j = 0) (e : ∀ j, j < n → f j = g j) : Sq k w lo hi A n' g := by
  subst hn
  refine ⟨hz, fun hn => ?_⟩
  obtain ⟨b, off, e1, h1, h2, h3⟩ := h.2 hn
  exact ⟨b, off, e1, h1, h2, fun j hj => by rw [h3 j hj, e j hj]⟩

theorem litF_out {l : List Nat} {j : Nat} (h : l.length ≤ j) : litF l j = 0 := by unfold litF; rw [List.getD_eq_getElem?_getD, List.getElem?_eq_none h]; rfl

/-- a list that reads as F reads as the written-out list, if the two agree -/
theorem sq_lit {k : IntKind} {w : World} {lo hi n : Nat} {A : Option Addr} {F : Nat → Nat} (l : List Nat) (h : Sq k w lo hi A n F) (hb : sameB n F l.length (litF l) = true) : Sq k w lo hi A l.length (litF l) := by
  obtain ⟨h1, h2⟩ := sameB_true.1 hb
  exact h.fcongr h1 (fun j hj => litF_out (by omega)) h2

end Go.Proofs.Ytmidpholmgmdpaa

namespace Go.Proofs.Ytmidpholmgmdpaa
open Go.RowKit

end Go.Proofs.Ytmidpholmgmdpaa
