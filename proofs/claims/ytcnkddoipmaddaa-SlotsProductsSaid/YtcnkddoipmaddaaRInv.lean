/- Euclid's rule with the multiples of a that yield the rests: plain arithmetic. -/
/- The contract of modular.fits. -/
/- The contract of modular.Inverse. -/
/- The contract of the reference's Inverse. -/
import Derived.Test.YtcnkddoipmaddaaPlain
import Derived.Test.YtcnkddoipmaddaaRet
namespace Go.Proofs.Ytcnkddoipmaddaa

/-- what holds at each round's head: x and y are the rests, u a = x and v a = y modulo m -/
structure EI (m a x y : Nat) (u v : Int) : Prop where
  lt : y < x
  le : x ≤ m
  gcd : Nat.gcd x y = Nat.gcd m a
  hu : ∃ s : Int, u * a = x + s * m
  hv : ∃ s : Int, v * a = y + s * m
  det : (v * x - u * y = m ∧ u ≤ 0 ∧ 0 ≤ v) ∨ (v * x - u * y = -(m : Int) ∧ 0 ≤ u ∧ v ≤ 0)
  small : -(m : Int) ≤ 2 * u ∧ 2 * u ≤ m
  top : -(m : Int) ≤ v ∧ v ≤ m

theorem EI.start {m a : Nat} (ha : a < m) : EI m a m a 0 1 :=
  ⟨ha, Nat.le_refl m, rfl, ⟨-1, by omega⟩, ⟨0, by omega⟩, .inl ⟨by omega, by omega, by omega⟩, by omega, by omega⟩

theorem EI.step {m a x y : Nat} {u v : Int} (h : EI m a x y u v) (hy : 0 < y) : EI m a y (x % y) v (u - (x : Int) / (y : Int) * v) := by
  obtain ⟨h1, h2, h3, ⟨s, hs⟩, ⟨t, ht⟩, h6, h7, h8⟩ := h
  have hq : (x : Int) / (y : Int) * (y : Int) + (x : Int) % (y : Int) = x := by rw [Int.mul_comm]; exact Int.mul_ediv_add_emod _ _
  have hmod : ((x % y : Nat) : Int) = (x : Int) % (y : Int) := Int.natCast_emod x y
  have hlt := Nat.mod_lt x hy
  obtain ⟨q, hqd⟩ : ∃ q : Int, (x : Int) / (y : Int) = q := ⟨_, rfl⟩
  have hq0 : 0 ≤ q := by rw [← hqd]; exact Int.ediv_nonneg (Int.natCast_nonneg _) (Int.natCast_nonneg _)
  rw [hqd] at hq ⊢
  obtain ⟨r, hr⟩ : ∃ r, x % y = r := ⟨_, rfl⟩
  rw [← hmod] at hq
  rw [hr] at hq hlt ⊢
  -- the determinant turns its sign
  have hdet : (u - q * v) * (y : Int) - v * (r : Int) = -(v * x - u * y) := by
    rw [← hq, Int.sub_mul, Int.mul_add, Int.mul_comm v (q * (y : Int)), Int.mul_right_comm q (y : Int) v]
    omega
  have hx2 : (2 : Int) ≤ x := by omega
  have hy1 : (1 : Int) ≤ y := by omega
  have hr0 : (0 : Int) ≤ r := Int.natCast_nonneg r
  refine ⟨hlt, by omega, ?_, ⟨t, ht⟩, ⟨s - q * t, ?_⟩, ?_, ?_, ?_⟩
  · rw [← hr, Nat.gcd_comm y, ← Nat.gcd_rec, Nat.gcd_comm, h3]
  · rw [Int.sub_mul, hs, Int.mul_assoc, ht, Int.mul_add, Int.sub_mul, ← hq, Int.mul_assoc]
    omega
  · rcases h6 with ⟨e, e1, e2⟩ | ⟨e, e1, e2⟩
    · exact .inr ⟨by rw [hdet, e], e2, by have := Int.mul_nonneg hq0 e2; omega⟩
    · refine .inl ⟨by rw [hdet, e]; omega, e2, ?_⟩
      have := Int.mul_nonneg hq0 (show 0 ≤ -v by omega)
      rw [Int.mul_neg] at this
      omega
  · rcases h6 with ⟨e, e1, e2⟩ | ⟨e, e1, e2⟩
    · have a1 := Int.mul_nonneg (show 0 ≤ -u by omega) (show (0 : Int) ≤ y by omega)
      have a2 := Int.mul_nonneg e2 (show (0 : Int) ≤ x - 2 by omega)
      rw [Int.neg_mul] at a1
      rw [Int.mul_sub] at a2
      omega
    · have a1 := Int.mul_nonneg e1 (show (0 : Int) ≤ y by omega)
      have a2 := Int.mul_nonneg (show 0 ≤ -v by omega) (show (0 : Int) ≤ x - 2 by omega)
      rw [Int.mul_sub, Int.neg_mul, Int.neg_mul] at a2
      omega
  · have key : (u - q * v) * (y : Int) - v * (r : Int) = -(v * x - u * y) := hdet
    obtain ⟨z, hz⟩ : ∃ z, u - q * v = z := ⟨_, rfl⟩
    rw [hz] at key ⊢
    rcases h6 with ⟨e, e1, e2⟩ | ⟨e, e1, e2⟩
    · have hz0 : z ≤ 0 := by have := Int.mul_nonneg hq0 e2; omega
      have a1 := Int.mul_nonneg (show 0 ≤ -z by omega) (show (0 : Int) ≤ y - 1 by omega)
      have a2 := Int.mul_nonneg e2 hr0
      rw [Int.mul_sub, Int.neg_mul, Int.neg_mul] at a1
      omega
    · have hz0 : 0 ≤ z := by
        have := Int.mul_nonneg hq0 (show 0 ≤ -v by omega)
        rw [Int.mul_neg] at this
        omega
      have a1 := Int.mul_nonneg hz0 (show (0 : Int) ≤ y - 1 by omega)
      have a2 := Int.mul_nonneg (show 0 ≤ -v by omega) hr0
      rw [Int.mul_sub] at a1
      rw [Int.neg_mul] at a2
      omega

/-- the products that the program computes on the way, and their bounds -/
theorem EI.bounds {m a x y : Nat} {u v : Int} (h : EI m a x y u v) (hy : 0 < y) : 0 ≤ (x : Int) / (y : Int) * (y : Int) ∧ (x : Int) / (y : Int) * (y : Int) ≤ x ∧ -(2 * (m : Int)) ≤ (x : Int) / (y : Int) * v ∧ (x : Int) / (y : Int) * v ≤ 2 * (m : Int) ∧
    (x : Int) - (x : Int) / (y : Int) * (y : Int) = ((x % y : Nat) : Int) := by
  have hs := h.step hy
  have h1 := hs.top
  have h2 := h.small
  have hq : (x : Int) / (y : Int) * (y : Int) + (x : Int) % (y : Int) = x := by rw [Int.mul_comm]; exact Int.mul_ediv_add_emod _ _
  have hmod : ((x % y : Nat) : Int) = (x : Int) % (y : Int) := Int.natCast_emod x y
  have hn : 0 ≤ (x : Int) / (y : Int) * (y : Int) := Int.mul_nonneg (Int.ediv_nonneg (Int.natCast_nonneg _) (Int.natCast_nonneg _)) (Int.natCast_nonneg _)
  refine ⟨hn, by omega, by omega, by omega, by omega⟩

theorem quo_bounds (x y : Nat) : 0 ≤ (x : Int) / (y : Int) ∧ (x : Int) / (y : Int) ≤ x :=
  ⟨Int.ediv_nonneg (Int.natCast_nonneg _) (Int.natCast_nonneg _), Int.ediv_le_self _ (Int.natCast_nonneg _)⟩

/-- at the end: the rest is the greatest common divisor, and u the inverse if that is 1 -/
theorem EI.end_ {m a x : Nat} {u v : Int} (h : EI m a x 0 u v) : x = Nat.gcd m a := by rw [← h.gcd, Nat.gcd_zero_right]
theorem EI.inv {m a : Nat} {u v : Int} (h : EI m a 1 0 u v) (hm : 2 ≤ m) : 0 ≤ (if u < 0 then u + m else u) ∧ (if u < 0 then u + m else u) < m ∧ ((invN a m : Nat) : Int) = (if u < 0 then u + m else u) := by
  have h2 := h.small
  obtain ⟨s, hs⟩ := h.hu
  have hr0 : 0 ≤ (if u < 0 then u + m else u) := by split <;> omega
  have hr1 : (if u < 0 then u + m else u) < m := by split <;> omega
  have hr2 : ∃ t : Int, (if u < 0 then u + m else u) * a = 1 + t * m := by
    split
    · exact ⟨s + a, by rw [Int.add_mul, hs, Int.add_mul, Int.mul_comm (a : Int)]; simp only [Int.natCast_one]; omega⟩
    · exact ⟨s, by rw [hs]; rfl⟩
  obtain ⟨r, hr⟩ := Int.eq_ofNat_of_zero_le hr0
  obtain ⟨t, ht⟩ := hr2
  rw [hr] at hr1 ht ⊢
  refine ⟨Int.natCast_nonneg r, hr1, ?_⟩
  congr 1
  refine invN_eq (by omega) ?_
  have e1 : ((r * a % m : Nat) : Int) = ((1 % m : Nat) : Int) := by
    rw [Int.natCast_emod, Int.natCast_emod, Int.natCast_mul, ht, Int.add_mul_emod_self_right]
    rfl
  exact Int.ofNat_inj.1 e1

theorem invN_spec {a m : Nat} (ha : a < m) (hm : 2 ≤ m) (hg : Nat.gcd m a = 1) : invN a m < m ∧ invN a m * a % m = 1 % m := by
  -- run Euclid's rule
  have run : ∀ k x y (u v : Int), y ≤ k → EI m a x y u v → ∃ x' u' v', EI m a x' 0 u' v' := by
    intro k
    induction k with
    | zero =>
      intro x y u v hy h
      obtain rfl : y = 0 := by omega
      exact ⟨x, u, v, h⟩
    | succ k ih =>
      intro x y u v hy h
      rcases Nat.eq_zero_or_pos y with h0 | h0
      · subst h0
        exact ⟨x, u, v, h⟩
      · exact ih _ _ _ _ (by have := Nat.mod_lt x h0; omega) (h.step h0)
  obtain ⟨x, u, v, h⟩ := run a m a 0 1 (Nat.le_refl a) (EI.start ha)
  obtain rfl : x = 1 := h.end_.trans hg
  have hi := h.inv hm
  have h2 := h.small
  obtain ⟨s, hs⟩ := h.hu
  refine ⟨by omega, ?_⟩
  have e1 : ((invN a m * a % m : Nat) : Int) = ((1 % m : Nat) : Int) := by
    rw [Int.natCast_emod, Int.natCast_emod, Int.natCast_mul, hi.2.2]
    split
    · rw [Int.add_mul, hs, Int.mul_comm (m : Int), Int.add_mul_emod_self_right, Int.add_mul_emod_self_right]
    · rw [hs, Int.add_mul_emod_self_right]
  exact Int.ofNat_inj.1 e1
end Go.Proofs.Ytcnkddoipmaddaa

namespace Go.Proofs.Ytcnkddoipmaddaa
open Go.RowKit

/-- n is a modulus and the numbers are residues -/
def fitsB (n L : Nat) (f : Nat → Nat) : Bool := ((List.range L).all fun j => decide (f j < n)) && (decide (2 ≤ n) && decide (n ≤ 2147483647))

theorem fitsB_big {n L k : Nat} {f : Nat → Nat} (hk : k < L) (h : n ≤ f k) : fitsB n L f = false := by
  unfold fitsB
  have : ((List.range L).all fun j => decide (f j < n)) = false := by
    simp only [List.all_eq_false, List.mem_range, decide_eq_true_eq]
    exact ⟨k, hk, by omega⟩
  rw [this]
  rfl
theorem fitsB_all {n L : Nat} {f : Nat → Nat} (h : ∀ j, j < L → f j < n) : fitsB n L f = (decide (2 ≤ n) && decide (n ≤ 2147483647)) := by
  unfold fitsB
  have : ((List.range L).all fun j => decide (f j < n)) = true := by
    simp only [List.all_eq_true, List.mem_range, decide_eq_true_eq]
    exact h
  rw [this]
  rfl

set_option maxHeartbeats 400000 in
theorem fits_any (n L c : Nat) (A : Option Addr) (f : Nat → Nat) (w : World) (lo hi : Nat) (h : Sq .u32 w lo hi A L f) (hL : L ≤ 8) :
    Calls Try.prog 43 #[.int .u32 n, .slice A L c] w (RetP w (.bool (fitsB n L f))) := by
  go_enter Try.func43, Try.ntmps43
  go_wp2
  go_loop [9] (fun i => ∃ k : Nat, k ≤ L ∧ i = .int .i64 k ∧ (∀ j, j < k → f j < n)) (fun i => L - (intOf i).toNat)
  case atStart => exact ⟨0, Nat.zero_le _, rfl, fun j hj => absurd hj (Nat.not_lt_zero j)⟩
  case round =>
    obtain ⟨k, hk, rfl, hle⟩ := hrel
    have HL := Lib.hid hle
    clear hle
    by_cases hkL : k < L
    · obtain ⟨g, off, rfl, _, _, hcell⟩ := h.2 (by omega)
      have hc1 := hcell k hkL
      obtain ⟨x, hx⟩ : ∃ x, f k = x := ⟨_, rfl⟩
      rw [hx] at hc1
      have HX := Lib.hid hx
      clear hx hcell h
      by_cases hxn : n ≤ x
      · go_wp2
        go_ret
        exact ⟨by rw [fitsB_big hkL (by rw [HX.out]; exact hxn)]; rfl, rfl⟩
      · go_wp2
        go_round
        case rel =>
          refine ⟨k + 1, by omega, by go_num, fun j hj => ?_⟩
          rcases Nat.lt_or_ge j k with h | h
          · exact HL.out j h
          · rw [show j = k from by omega, HX.out]; omega
        case measure => simp [intOf]; omega
    · clear h
      have HF := Lib.hid (fitsB_all (n := n) (fun j (hj : j < L) => HL.out j (by omega)))
      by_cases h2 : 2 ≤ n
      · by_cases h3 : n ≤ 2147483647
        · have hdd : decide ((n : Int) ≤ 2147483647) = true := decide_eq_true (by omega)
          have hB : (decide (2 ≤ n) && decide (n ≤ 2147483647)) = true := by simp [h2, h3]
          have HB := Lib.hid hB
          clear hB
          go_wp2
          go_ret
          exact ⟨by rw [HF.out, HB.out]; rfl, rfl⟩
        · have hdd : decide ((n : Int) ≤ 2147483647) = false := decide_eq_false (by omega)
          have hB : (decide (2 ≤ n) && decide (n ≤ 2147483647)) = false := by simp [h3]
          have HB := Lib.hid hB
          clear hB
          go_wp2
          go_ret
          exact ⟨by rw [HF.out, HB.out]; rfl, rfl⟩
      · have hB : (decide (2 ≤ n) && decide (n ≤ 2147483647)) = false := by simp [h2]
        have HB := Lib.hid hB
        clear hB
        go_wp2
        go_ret
        exact ⟨by rw [HF.out, HB.out]; rfl, rfl⟩

theorem fits_one {a m : Nat} : fitsB m 1 (oneF a) = true ↔ a < m ∧ 2 ≤ m ∧ m ≤ 2147483647 := by
  unfold fitsB oneF
  simp [List.range_succ]
end Go.Proofs.Ytcnkddoipmaddaa

namespace Go.Proofs.Ytcnkddoipmaddaa
open Go.RowKit

def EuState (m a : Nat) (r s p q : Value) : Prop := ∃ (x y : Nat) (u v : Int), EI m a x y u v ∧ r = .int .i64 x ∧ s = .int .i64 y ∧ p = .int .i64 u ∧ q = .int .i64 v

/-- what an inverse comes to -/
def invE (a n : Nat) : Nat × Nat := if fitsB n 1 (oneF a) = true then (if Nat.gcd n a = 1 then (invN a n, 0) else (0, 4)) else (0, 2)
def InvBool (a m : Nat) (w : World) (e : Ending) (w' : World) : Prop :=
  w = w' ∧ ((Nat.gcd m a = 1 ∧ e = .returned (.tuple #[.int .u32 (invN a m : Nat), .bool true])) ∨ (Nat.gcd m a ≠ 1 ∧ e = .returned (.tuple #[.int .u32 0, .bool false])))
def InvErr (a m : Nat) (w : World) (e : Ending) (w' : World) : Prop :=
  Below w.heap.size w w' ∧ e = .returned (.tuple #[.int .u32 ((invE a m).1 : Nat), .int .i64 ((invE a m).2 : Nat)])
theorem invE_ok {a m : Nat} (h : fitsB m 1 (oneF a) = true) (hg : Nat.gcd m a = 1) : invE a m = (invN a m, 0) := by
  unfold invE
  rw [if_pos h, if_pos hg]
theorem invE_none {a m : Nat} (h : fitsB m 1 (oneF a) = true) (hg : Nat.gcd m a ≠ 1) : invE a m = (0, 4) := by
  unfold invE
  rw [if_pos h, if_neg hg]
theorem invE_arg {a m : Nat} (h : fitsB m 1 (oneF a) = false) : invE a m = (0, 2) := by
  unfold invE
  rw [if_neg (by rw [h]; decide)]
theorem ret_pair {x y : Value} {a b c d : Value} (h1 : a = c) (h2 : b = d) (_ : x = a) (_ : y = b) : Ending.returned (.tuple #[a, b]) = .returned (.tuple #[c, d]) := by rw [h1, h2]

set_option maxHeartbeats 1000000 in
theorem inverse_any (a m : Nat) (w : World) :
    Calls Try.prog 31 #[.int .u32 a, .int .u32 m] w (InvErr a m w) := by
  have hsq : ∀ o, o = Obj.cells #[Value.int .u32 (a : Nat)] 22 → Sq .u32 (w.alloc o) 0 (w.heap.size + 1) (some ⟨w.heap.size, 0, none⟩) 1 (oneF a) := fun o ho => by subst ho; exact sq_one rfl (Nat.zero_le _) (Nat.lt_succ_self _)
  have HS := Lib.hid (hsq _ rfl)
  have hbel := (Below.refl w.heap.size w).alloc (Nat.le_refl _) (Obj.cells #[Value.int .u32 (a : Nat)] 22)
  clear hsq
  by_cases hf : fitsB m 1 (oneF a) = true
  · have hfit := fits_any m 1 1 _ (oneF a) _ 0 _ HS.out (by omega)
    rw [hf] at hfit
    obtain ⟨ha, hm, hm2⟩ := fits_one.1 hf
    have HF := Lib.hid hf
    have HT := Lib.hid hfit
    clear hf hfit
    go_enter Try.func31, Try.ntmps31
    go_wp2_with (go_at_call 43; refine HT.out.mono ?_; rintro e w' ⟨rfl, rfl⟩)
    clear HT HS
    go_loop [6, 7, 8, 9] (EuState m a) (fun _ s _ _ => (intOf s).toNat)
    case atStart => exact ⟨m, a, 0, 1, EI.start ha, rfl, rfl, rfl, rfl⟩
    case round =>
      obtain ⟨x, y, u, v, hei, rfl, rfl, rfl, rfl⟩ := hrel
      by_cases hy : 0 < y
      · have hstep := Lib.hid (hei.step hy)
        obtain ⟨b1, b2, b3, b4, b5⟩ := hei.bounds hy
        obtain ⟨b6, b7⟩ := quo_bounds x y
        have hle := hei.le
        have htop := hei.top
        have hsm := hei.small
        have h5 := Lib.hid b5
        have hyz : ((y : Int) != 0) = true := by simp; omega
        have hmodlt := Nat.mod_lt x hy
        clear b5 hei
        go_wp2
        go_round
        case rel => exact ⟨y, x % y, v, _, hstep.out, rfl, by rw [← h5.out], rfl, rfl⟩
        case measure =>
          have := h5.out
          simp [intOf]
          omega
      · obtain rfl : y = 0 := by omega
        have hg := hei.end_
        by_cases hx1 : x = 1
        · subst hx1
          have hi := hei.inv hm
          have hsm := hei.small
          by_cases hu : u < 0
          · rw [if_pos hu] at hi
            obtain ⟨i1, i2, i3⟩ := hi
            have H3 := Lib.hid i3
            have HG := Lib.hid hg
            clear hei hg i3
            go_wp2
            go_ret2
            exact ⟨hbel, by rw [invE_ok HF.out HG.out.symm, H3.out]; rfl⟩
          · rw [if_neg hu] at hi
            obtain ⟨i1, i2, i3⟩ := hi
            have H3 := Lib.hid i3
            have HG := Lib.hid hg
            clear hei hg i3
            go_wp2
            go_ret2
            exact ⟨hbel, by rw [invE_ok HF.out HG.out.symm, H3.out]; rfl⟩
        · have hxz : ((x : Int) != 1) = true := by simp; omega
          have hle := hei.le
          have HG := Lib.hid hg
          clear hei hg
          go_wp2
          go_ret2
          exact ⟨hbel, by rw [invE_none HF.out (by rw [← HG.out]; exact hx1)]; rfl⟩
  · have hf2 : fitsB m 1 (oneF a) = false := by
      cases h : fitsB m 1 (oneF a)
      · rfl
      · exact absurd h hf
    have hfit := fits_any m 1 1 _ (oneF a) _ 0 _ HS.out (by omega)
    rw [hf2] at hfit
    have HF := Lib.hid hf2
    have HT := Lib.hid hfit
    clear hf hf2 hfit
    go_enter Try.func31, Try.ntmps31
    go_wp2_with (go_at_call 43; refine HT.out.mono ?_; rintro e w' ⟨rfl, rfl⟩)
    go_ret2
    exact ⟨hbel, by rw [invE_arg HF.out]; rfl⟩
end Go.Proofs.Ytcnkddoipmaddaa

namespace Go.Proofs.Ytcnkddoipmaddaa
open Go.RowKit

set_option maxHeartbeats 1000000 in
theorem rinverse_any (a m : Nat) (w : World) (ha : a < m) (hm : 2 ≤ m) (hm2 : m ≤ 2147483647) :
    Calls Try.prog 36 #[.int .u32 a, .int .u32 m] w (InvBool a m w) := by
  go_enter Try.func36, Try.ntmps36
  go_wp2
  go_loop [6, 7, 8, 9] (EuState m a) (fun _ s _ _ => (intOf s).toNat)
  case atStart => exact ⟨m, a, 0, 1, EI.start ha, rfl, rfl, rfl, rfl⟩
  case round =>
    obtain ⟨x, y, u, v, hei, rfl, rfl, rfl, rfl⟩ := hrel
    by_cases hy : 0 < y
    · have hstep := Lib.hid (hei.step hy)
      obtain ⟨b1, b2, b3, b4, b5⟩ := hei.bounds hy
      obtain ⟨b6, b7⟩ := quo_bounds x y
      have hle := hei.le
      have htop := hei.top
      have hsm := hei.small
      have h5 := Lib.hid b5
      have hyz : ((y : Int) != 0) = true := by simp; omega
      have hmodlt := Nat.mod_lt x hy
      clear b5 hei
      go_wp2
      go_round
      case rel => exact ⟨y, x % y, v, _, hstep.out, rfl, by rw [← h5.out], rfl, rfl⟩
      case measure =>
        have := h5.out
        simp [intOf]
        omega
    · obtain rfl : y = 0 := by omega
      have hg := hei.end_
      by_cases hx1 : x = 1
      · subst hx1
        have hi := hei.inv hm
        have hsm := hei.small
        by_cases hu : u < 0
        · rw [if_pos hu] at hi
          obtain ⟨i1, i2, i3⟩ := hi
          have H3 := Lib.hid i3
          have HG := Lib.hid hg
          clear hei hg i3
          go_wp2
          go_ret2
          exact ⟨rfl, .inl ⟨HG.out.symm, by rw [H3.out]; rfl⟩⟩
        · rw [if_neg hu] at hi
          obtain ⟨i1, i2, i3⟩ := hi
          have H3 := Lib.hid i3
          have HG := Lib.hid hg
          clear hei hg i3
          go_wp2
          go_ret2
          exact ⟨rfl, .inl ⟨HG.out.symm, by rw [H3.out]; rfl⟩⟩
      · have hxz : ((x : Int) != 1) = true := by simp; omega
        have hle := hei.le
        have HG := Lib.hid hg
        clear hei hg
        go_wp2
        go_ret2
        exact ⟨rfl, .inr ⟨by rw [← HG.out]; exact hx1, rfl⟩⟩

end Go.Proofs.Ytcnkddoipmaddaa
