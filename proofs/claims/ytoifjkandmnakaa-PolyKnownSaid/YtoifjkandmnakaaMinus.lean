/- The contracts of the reference's minus and times. -/
import Derived.Test.YtoifjkandmnakaaProduct
namespace Go.Proofs.Ytoifjkandmnakaa
open Go.RowKit

def cutF (k : Nat) (F : Nat → Nat) : Nat → Nat := fun j => if j < k then F j else 0
theorem cutF_out {k : Nat} {F : Nat → Nat} {j : Nat} (h : k ≤ j) : cutF k F j = 0 := if_neg (by omega)
theorem cutF_lt {k : Nat} {F : Nat → Nat} {j : Nat} (h : j < k) : cutF (k + 1) F j = cutF k F j := by
  unfold cutF
  rw [if_pos h, if_pos (by omega)]
theorem cutF_add {k : Nat} {F : Nat → Nat} (j : Nat) : cutF (k + 1) F (k + j) = oneF (F k) j := by
  unfold cutF oneF
  by_cases h : j = 0
  · subst h
    rw [if_pos (by omega), if_pos rfl, Nat.add_zero]
  · rw [if_neg (by omega), if_neg h]
theorem cutF_all {N : Nat} {F : Nat → Nat} (h : ∀ j, N ≤ j → F j = 0) (j : Nat) : cutF N F j = F j := by
  unfold cutF
  split
  · rfl
  · exact (h j (by omega)).symm

theorem subF_val {m x y : Nat} (hy : y < m) : ((x : Int) + (m : Int) - (y : Int)) % (m : Int) = (((x + m - y) % m : Nat) : Int) := by
  rw [Int.natCast_emod, Int.ofNat_sub (by omega)]
  simp
theorem subF_out {m n nb : Nat} {a b : Nat → Nat} (ha : ∀ j, n ≤ j → a j = 0) (hb : ∀ j, nb ≤ j → b j = 0) (j : Nat) (h1 : n ≤ j) (h2 : nb ≤ j) : subF m a b j = 0 := by
  unfold subF
  rw [ha j h1, hb j h2]
  simp
theorem subF_lt {m : Nat} (hm : 0 < m) (a b : Nat → Nat) (j : Nat) : subF m a b j < m := Nat.mod_lt _ hm

set_option maxHeartbeats 1000000 in
theorem minus_any (m n nb ca cb : Nat) (A B : Option Addr) (a b : Nat → Nat) (w : World) (lo hi lo2 hi2 : Nat) (ha : Sq .u32 w lo hi A n a) (hb : Sq .u32 w lo2 hi2 B nb b)
    (hm : 0 < m) (hm2 : m ≤ 2147483647) (haa : ∀ j, a j < m) (hbb : ∀ j, b j < m) (hn : n ≤ 2000) (hnb : nb ≤ 2000) (hhi : hi ≤ w.heap.size) (hhi2 : hi2 ≤ w.heap.size) :
    Calls Try.prog 54 #[.int .u32 m, .slice A n ca, .slice B nb cb] w (RetSl w (tl (subF m a b) (max n nb)) (subF m a b)) := by
  obtain ⟨N, hN⟩ : ∃ N, N = max n nb := ⟨_, rfl⟩
  rw [← hN]
  have hN3 : N ≤ 2000 := by omega
  have HO := Lib.hid (subF_out (m := m) ha.1 hb.1)
  rcases Nat.lt_or_ge n nb with hlt | hlt
  all_goals
    have hN1 : n ≤ N := by omega
    have hN2 : nb ≤ N := by omega
    have hN4 : N ≤ n ∨ N ≤ nb := by omega
    have HN := Lib.hid hN
    clear hN
    go_enter Try.func54, Try.ntmps54
    go_wp2
    go_loopw [7, 8] (fun o i wr => ∃ (k : Nat) (A' : Option Addr) (c' : Nat), k ≤ N ∧ i = .int .i64 k ∧ o = .slice A' k c' ∧ Own .u32 wr w.heap.size 22 A' k c' (cutF k (subF m a b)) ∧ Below w.heap.size w wr) (fun _ i _ => N - (intOf i).toNat)
    case atStart => exact ⟨0, none, 0, Nat.zero_le _, rfl, rfl, Own.congr (Own.nil _ _ _ _) (fun j => (cutF_out (Nat.zero_le _)).symm), Below.refl _ _⟩
    case round =>
      obtain ⟨k, A', c', hk, rfl, rfl, hown, hbel⟩ := hrel
      have hxm := haa k
      have hym := hbb k
      by_cases hkN : k < N
      · have HA := Lib.hid (at_any A n ca a k wr lo hi (ha.below hbel hhi) (by omega) (by omega) (fun j => by have := haa j; omega))
        have HB := Lib.hid (at_any B nb cb b k wr lo2 hi2 (hb.below hbel hhi2) (by omega) (by omega) (fun j => by have := hbb j; omega))
        have hF : subF m a b k = (a k + m - b k) % m := rfl
        obtain ⟨x, hx⟩ : ∃ x, a k = x := ⟨_, rfl⟩
        obtain ⟨y, hy⟩ : ∃ y, b k = y := ⟨_, rfl⟩
        rw [Int.toNat_natCast, hx] at HA
        rw [Int.toNat_natCast, hy] at HB
        rw [hx, hy] at hF
        rw [hx] at hxm
        rw [hy] at hym
        have hd1 : 0 ≤ ((x : Int) + (m : Int) - (y : Int)) % (m : Int) := Int.emod_nonneg _ (by omega)
        have hd2 : ((x : Int) + (m : Int) - (y : Int)) % (m : Int) < (m : Int) := Int.emod_lt_of_pos _ (by omega)
        have hV : Value.int .u32 (((x : Int) + (m : Int) - (y : Int)) % (m : Int)) = .int .u32 ((subF m a b k : Nat) : Int) := by rw [hF, subF_val hym]
        have HV := Lib.hid hV
        have HO1 := Lib.hid hown
        have hsz := hbel.size
        clear hx hy hF hV hown ha hb haa hbb
        go_wp2_with (first
          | (go_at_call_of 53 A; refine HA.out.mono ?_; rintro e w' ⟨rfl, rfl⟩)
          | (go_at_call_of 53 B; refine HB.out.mono ?_; rintro e w' ⟨rfl, rfl⟩)
          | (at_builtin; refine wpl_append rfl _ _ _ rfl e32 rfl (HO1.out.alloc _) rfl (sq_one (x := subF m a b k) (lo := 0) (hi := wr.heap.size + 1) HV.out (Nat.zero_le _) (Nat.lt_succ_self _)) (cutF (k + 1) (subF m a b)) (fun j hj => cutF_lt hj) cutF_add (by unfold maxLen; omega) (by omega) (by simp; omega) ?_; intro A2 c2 w2 hown2 hg2 hb2 hat2))
        go_roundw
        case rel => exact ⟨k + 1, A2, c2, by omega, by go_num, rfl, hown2, (hbel.alloc hsz _).trans hb2⟩
        case measure => simp [intOf]; omega
      · obtain rfl : k = N := by omega
        have hcut : cutF k (subF m a b) = subF m a b := funext (cutF_all fun j hj => HO.out j (by omega) (by omega))
        rw [hcut] at hown
        have HT := Lib.hid (rtrim_any A' k c' (subF m a b) wr _ _ (hown.sq (Nat.le_refl _)) hown.le (by omega))
        have hsz := hbel.size
        clear hcut hown ha hb haa hbb hxm hym
        go_wp2_with (go_at_call 26; refine HT.out.mono ?_; rintro e w' ⟨A3, c3, rfl, hle3, hsq3, hb3⟩)
        go_ret
        exact ⟨A3, c3, rfl, hle3, hsq3.wide hsz (Nat.le_refl _), hbel.trans (hb3.mono hsz)⟩

def TimesIn (m k : Nat) (a b : Nat → Nat) (s i : Value) : Prop := ∃ t : Nat, t ≤ k + 1 ∧ i = .int .i64 t ∧ s = .int .u64 ((sumN (fun t => a t * b (k - t)) t % m : Nat) : Int)

set_option maxHeartbeats 1000000 in
theorem times_any (m n nb ca cb : Nat) (A B : Option Addr) (a b : Nat → Nat) (w : World) (lo hi lo2 hi2 : Nat) (ha : Sq .u32 w lo hi A n a) (hb : Sq .u32 w lo2 hi2 B nb b)
    (hm : 0 < m) (hm2 : m ≤ 2147483647) (haa : ∀ j, a j < m) (hbb : ∀ j, b j < m) (hn : n ≤ 2000) (hnb : nb ≤ 2000) (hhi : hi ≤ w.heap.size) (hhi2 : hi2 ≤ w.heap.size) :
    Calls Try.prog 55 #[.int .u32 m, .slice A n ca, .slice B nb cb] w (RetSl w (tl (mulF m a b) (n + nb)) (mulF m a b)) := by
  obtain ⟨N, hN⟩ : ∃ N, N = n + nb := ⟨_, rfl⟩
  rw [← hN]
  have hN1 : N ≤ n + nb := by omega
  have hN2 : n + nb ≤ N := by omega
  have HO := Lib.hid (fun j (hj : N ≤ j) => mulF_ext (m := m) ha.1 hb.1 j (by omega))
  clear hN
  go_enter Try.func55, Try.ntmps55
  go_wp2
  go_loopw [7, 8] (fun o i wr => ∃ (k : Nat) (A' : Option Addr) (c' : Nat), k ≤ N ∧ i = .int .i64 k ∧ o = .slice A' k c' ∧ Own .u32 wr w.heap.size 22 A' k c' (cutF k (mulF m a b)) ∧ Below w.heap.size w wr) (fun _ i _ => N - (intOf i).toNat)
  case atStart => exact ⟨0, none, 0, Nat.zero_le _, rfl, rfl, Own.congr (Own.nil _ _ _ _) (fun j => (cutF_out (Nat.zero_le _)).symm), Below.refl _ _⟩
  case round =>
    obtain ⟨k, A', c', hk, rfl, rfl, hown, hbel⟩ := hrel
    by_cases hkN : k < N
    · have HO1 := Lib.hid hown
      clear hown
      have hdec : decide ((k : Int) < (n : Int) + (nb : Int)) = true := decide_eq_true (by omega)
      go_wp2
      clear hdec
      go_loop [9, 10] (TimesIn m k a b) (fun _ i => k + 1 - (intOf i).toNat)
      case atStart => exact ⟨0, Nat.zero_le _, rfl, by simp [sumN]⟩
      case round =>
        obtain ⟨t, ht, rfl, rfl⟩ := hrel
        obtain ⟨z, hz⟩ : ∃ z, sumN (fun t => a t * b (k - t)) t % m = z := ⟨_, rfl⟩
        have hzm : sumN (fun t => a t * b (k - t)) t % m < m := Nat.mod_lt _ hm
        rw [hz] at hzm
        rw [hz]
        by_cases htk : t ≤ k
        · have HA := Lib.hid (at_any A n ca a t wr lo hi (ha.below hbel hhi) (by omega) (by omega) (fun j => by have := haa j; omega))
          have HB := Lib.hid (at_any B nb cb b ((k : Int) - (t : Int)) wr lo2 hi2 (hb.below hbel hhi2) (by omega) (by omega) (fun j => by have := hbb j; omega))
          have hxm := haa t
          have hym := hbb (k - t)
          obtain ⟨x, hx⟩ : ∃ x, a t = x := ⟨_, rfl⟩
          obtain ⟨y, hy⟩ : ∃ y, b (k - t) = y := ⟨_, rfl⟩
          rw [Int.toNat_natCast, hx] at HA
          rw [show ((k : Int) - (t : Int)).toNat = k - t from by omega, hy] at HB
          rw [hx] at hxm
          rw [hy] at hym
          have hxy2 := mul_lt_int hxm hym hm2
          have hxy3 : 0 ≤ (x : Int) * (y : Int) := Int.mul_nonneg (Int.natCast_nonneg _) (Int.natCast_nonneg _)
          have hd1 : 0 ≤ ((z : Int) + (x : Int) * (y : Int)) % (m : Int) := Int.emod_nonneg _ (by omega)
          have hd2 : ((z : Int) + (x : Int) * (y : Int)) % (m : Int) < (m : Int) := Int.emod_lt_of_pos _ (by omega)
          have hS : sumN (fun t => a t * b (k - t)) (t + 1) % m = (z + x * y) % m := by
            rw [sumN, ← hz, ← hx, ← hy, Nat.mod_add_mod]
          have HS := Lib.hid hS
          clear hx hy hz hS ha hb haa hbb
          go_wp2_with (first
            | (go_at_call_of 53 A; refine HA.out.mono ?_; rintro e w' ⟨rfl, rfl⟩)
            | (go_at_call_of 53 B; refine HB.out.mono ?_; rintro e w' ⟨rfl, rfl⟩))
          go_round
          case rel =>
            refine ⟨t + 1, by omega, by go_num, ?_⟩
            rw [HS.out]
            simp
          case measure => simp [intOf]; omega
        · obtain rfl : t = k + 1 := by omega
          have hV : Value.int .u32 (z : Int) = .int .u32 ((mulF m a b k : Nat) : Int) := by rw [← hz]; rfl
          have HV := Lib.hid hV
          have hsz := hbel.size
          clear hz hV ha hb haa hbb
          go_wp2_with (at_builtin; refine wpl_append rfl _ _ _ rfl e32 rfl (HO1.out.alloc _) rfl (sq_one (x := mulF m a b k) (lo := 0) (hi := wr.heap.size + 1) HV.out (Nat.zero_le _) (Nat.lt_succ_self _)) (cutF (k + 1) (mulF m a b)) (fun j hj => cutF_lt hj) cutF_add (by unfold maxLen; omega) (by omega) (by simp; omega) ?_; intro A2 c2 w2 hown2 hg2 hb2 hat2)
          go_roundw
          case rel => exact ⟨k + 1, A2, c2, by omega, by go_num, rfl, hown2, (hbel.alloc hsz _).trans hb2⟩
          case measure => simp [intOf]; omega
    · obtain rfl : k = N := by omega
      have hcut : cutF k (mulF m a b) = mulF m a b := funext (cutF_all HO.out)
      rw [hcut] at hown
      have HT := Lib.hid (rtrim_any A' k c' (mulF m a b) wr _ _ (hown.sq (Nat.le_refl _)) hown.le (by omega))
      have hsz := hbel.size
      clear hcut hown ha hb haa hbb
      go_wp2_with (go_at_call 26; refine HT.out.mono ?_; rintro e w' ⟨A3, c3, rfl, hle3, hsq3, hb3⟩)
      go_ret
      exact ⟨A3, c3, rfl, hle3, hsq3.wide hsz (Nat.le_refl _), hbel.trans (hb3.mono hsz)⟩
end Go.Proofs.Ytoifjkandmnakaa
