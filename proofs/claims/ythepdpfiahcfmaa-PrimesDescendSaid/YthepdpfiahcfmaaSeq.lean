/- Iterators of numbers of 32 bits, told by a function; the iterators of primes: their contracts. -/
import Derived.Test.YthepdpfiahcfmaaMarks
import Derived.Test.YthepdpfiahcfmaaRet
import Derived.RangeFuncBox
namespace Go.Proofs.Ythepdpfiahcfmaa
open Go.RowKit Go.Shelf
set_option linter.unusedVariables false

abbrev W32 := { d : Nat // d ≤ 2147483647 }
def encW (x : W32) : Array Value := #[.int .u32 (x.1 : Int)]
/-- the numbers that have come are F 0, F 1 and so on -/
def CanF (F : Nat → Nat) (pre : List W32) : Prop := pre.map (·.1) = (List.range pre.length).map F
theorem CanF.nil (F : Nat → Nat) : CanF F [] := rfl
theorem CanF.snoc {F : Nat → Nat} {pre : List W32} {x : W32} (h : CanF F pre) (hx : x.1 = F pre.length) : CanF F (pre ++ [x]) := by
  unfold CanF at *
  rw [List.map_append, h, List.length_append, List.length_singleton, List.range_succ, List.map_append]
  simp [hx]
theorem CanF.init {F : Nat → Nat} {pre : List W32} {x : W32} (h : CanF F (pre ++ [x])) : CanF F pre ∧ x.1 = F pre.length := by
  unfold CanF at *
  rw [List.map_append, List.length_append, List.length_singleton, List.range_succ, List.map_append] at h
  have h1 := List.append_inj h (by simp)
  exact ⟨h1.1, by simpa using h1.2⟩

theorem boxed_below {A B : World} {b n : Nat} {t : TypeId} {v : Value} (h : Boxed A b t v) (hb : Below n A B) (hlt : b < n) : Boxed B b t v := (hb.block b hlt).trans h
/-- 1 more than the multiples of s from the number K of them down -/
def dnF (s K j : Nat) : Nat := (K - j) * s + 1
theorem dn_le {L s K j : Nat} (hK : K = (L - 2) / s) (hj : j < K) : dnF s K j ≤ L - 1 := by
  unfold dnF
  have h1 : (K - j) * s ≤ K * s := Nat.mul_le_mul_right s (Nat.sub_le K j)
  have h2 : K * s ≤ L - 2 := by rw [hK]; exact Nat.div_mul_le_self _ _
  have h3 : K ≤ L - 2 := by rw [hK]; exact Nat.div_le_self _ _
  omega

theorem down_any (L s : Int) (w : World) : Calls Try.prog 21 #[.int .u64 L, .int .u64 s] w fun e w' => e = .returned (.func (.func 30) #[] #[.pointer (some ⟨w.heap.size, 0, none⟩), .pointer (some ⟨w.heap.size + 1, 0, none⟩)]) ∧ w' = (w.alloc (.cells #[.int .u64 L] 35)).alloc (.cells #[.int .u64 s] 35) := by
  go_enter Try.func21, Try.ntmps21
  go_wp2
  go_ret
  exact ⟨rfl, rfl⟩
theorem up_any (L s : Int) (w : World) : Calls Try.prog 23 #[.int .u64 L, .int .u64 s] w fun e w' => e = .returned (.func (.func 32) #[] #[.pointer (some ⟨w.heap.size, 0, none⟩), .pointer (some ⟨w.heap.size + 1, 0, none⟩)]) ∧ w' = (w.alloc (.cells #[.int .u64 L] 35)).alloc (.cells #[.int .u64 s] 35) := by
  go_enter Try.func23, Try.ntmps23
  go_wp2
  go_ret
  exact ⟨rfl, rfl⟩

/-- 1 more than the multiples of s from n0 on up -/
def upF (s n0 j : Nat) : Nat := n0 + j * s
theorem up_lt {s n0 j : Nat} (hs : 0 < s) (h : upF s n0 j ≤ 2147483647) : j < 2147483648 := by
  unfold upF at h
  have : j * 1 ≤ j * s := Nat.mul_le_mul_left j hs
  omega

set_option maxHeartbeats 1000000 in
theorem down_stops {Kp : World → World → Prop} (F : Fence) (m : Nat) (hF : F.fn 30) (hro : F.round = none) (hm : 1 ≤ m) (L s K b1 b2 : Nat) (w : World) (hKp : ∀ A B, Kp A B → Boxed A b2 35 (.int .u64 (s : Int)) → Boxed B b2 35 (.int .u64 (s : Int))) (hb1 : b1 < w.heap.size) (hb2 : b2 < w.heap.size) (hL : L ≤ 2147483648) (hs : 0 < s) (hs2 : s ≤ 1099511627776) (hK : K = (L - 2) / s)
    (hc1 : w.cell? ⟨b1, 0, none⟩ = some (.int .u64 (L : Int))) (hc2 : Boxed w b2 35 (.int .u64 (s : Int))) :
    SeqStopsK F m Try.prog 30 #[.pointer (some ⟨b1, 0, none⟩), .pointer (some ⟨b2, 0, none⟩)] encW Kp (fun xs => CanF (dnF s K) xs ∧ xs.length = K) (CanF (dnF s K)) K w := fun l J Jx W hW hJ hJx hY h0 => by
  have k1 : W.cell? ⟨b1, 0, none⟩ = some (.int .u64 (L : Int)) := (hW.cell (p := ⟨b1, 0, none⟩) hb1).trans hc1
  have hbW : Boxed W b2 35 (.int .u64 (s : Int)) := boxed_below hc2 hW hb2
  have k2 := hbW.cell
  have HBW := Lib.hid hbW
  clear hbW
  have HK := Lib.hid hK
  have hKL : K ≤ L - 2 := by rw [hK]; exact Nat.div_le_self _ _
  have hs0 : ¬ s = 0 := by omega
  clear hc1 hc2
  refine callsIn_of_wp Try.func30 rfl hF ?_ hro
  simp only [Try.ntmps30, List.size_toArray, List.length_cons, List.length_nil, Nat.reduceAdd, Nat.reduceSub, Array.replicate_succ, Array.replicate_zero, List.push_toArray, List.append_toArray, List.nil_append, List.cons_append]
  by_cases h2 : L < 2
  · have q1 : decide ((L : Int) < 2) = true := decide_eq_true (by omega)
    have hK0 : K = 0 := by omega
    have HK0 := Lib.hid hK0
    clear hK0 hK
    gi_wp2
    refine bodyPost_ret (results_none rfl _ _ _) rfl ?_
    exact ⟨⟨_, rfl⟩, .inl ⟨[], ⟨CanF.nil _, HK0.out.symm⟩, h0⟩⟩
  have q1 : decide ((L : Int) < 2) = false := decide_eq_false (by omega)
  have hquo : ((L : Int) - 2) / (s : Int) = (K : Int) := by rw [hK, Int.natCast_ediv, Int.ofNat_sub (by omega)]; rfl
  have hquot : ((L : Int) - 2).tdiv (s : Int) = (K : Int) := by rw [Int.tdiv_eq_ediv_of_nonneg (by omega), hquo]
  clear hK
  gi_wp2
  gi_loopw [4] (fun p wr => ∃ (k j : Nat) (pre : List W32), p = .int .u64 (k : Int) ∧ k + j ≤ K ∧ K ≤ k + j ∧ CanF (dnF s K) pre ∧ pre.length = j ∧ J pre wr ∧ Boxed wr b2 35 (.int .u64 (s : Int))) (fun p _ => (intOf p).toNat)
  case atStart => exact ⟨K, 0, [], rfl, by omega, by omega, CanF.nil _, rfl, h0, HBW.out⟩
  case round =>
    clear k1 k2 hquo hquot
    obtain ⟨k, j, pre, rfl, hk1, hk2, hcan, hlen, hJs, hbl⟩ := hrel
    have k2 := hbl.cell
    have HBL := Lib.hid hbl
    clear hbl
    have HLEN := Lib.hid hlen
    clear hlen
    by_cases hk : 0 < k
    · have q2 : decide ((k : Int) > 0) = true := decide_eq_true (by omega)
      have hle := dn_le (j := j) HK.out (by omega)
      have hval : dnF s K j = k * s + 1 := by unfold dnF; rw [show K - j = k by omega]
      obtain ⟨d, hd⟩ : ∃ d, k * s = d := ⟨_, rfl⟩
      have hdi : (k : Int) * (s : Int) = (d : Int) := by rw [← hd]; simp
      rw [hval, hd] at hle
      rw [hd] at hval
      have HVAL := Lib.hid hval
      have hdb : d + 1 ≤ 2147483647 := by omega
      clear hval hd
      obtain ⟨fn, tmps, assign, body, hy, hR⟩ := hY pre ⟨d + 1, hdb⟩ _ hJs (by rw [HLEN.out]; omega)
      dsimp only [encW] at hy
      rw [Int.natCast_add, Int.natCast_one] at hy
      gi_wp2
      refine hR.mono ?_
      rintro e W2 (⟨rfl, hJ2, hkp⟩ | ⟨rfl, hx2⟩)
      · have hbl2 := Lib.hid (hKp _ _ hkp HBL.out)
        gi_wp2
        go_roundw
        case rel => exact ⟨k - 1, j + 1, _, by go_num, by omega, by omega, hcan.snoc (by rw [HLEN.out]; exact HVAL.out.symm), by rw [List.length_append, HLEN.out]; rfl, hJ2, hbl2.out⟩
        case measure => simp only [intOf]; omega
      · gi_wp2
        refine bodyPost_ret (results_none rfl _ _ _) rfl ?_
        exact ⟨⟨_, rfl⟩, .inr ⟨_, hcan.snoc (by rw [HLEN.out]; exact HVAL.out.symm), hx2⟩⟩
    · obtain rfl : k = 0 := by omega
      gi_wp2
      go_end0
      exact ⟨⟨_, rfl⟩, .inl ⟨pre, ⟨hcan, by rw [HLEN.out]; omega⟩, hJs⟩⟩

set_option maxHeartbeats 1000000 in
theorem up_stops {Kp : World → World → Prop} (F : Fence) (m : Nat) (hF : F.fn 32) (hro : F.round = none) (hm : 1 ≤ m) (n0 s b1 b2 : Nat) (w : World) (hKp : ∀ A B, Kp A B → Boxed A b2 35 (.int .u64 (s : Int)) → Boxed B b2 35 (.int .u64 (s : Int))) (hb1 : b1 < w.heap.size) (hb2 : b2 < w.heap.size) (hn0 : n0 ≤ 1099511627776) (hs : 0 < s) (hs2 : s ≤ 4294967295)
    (hc1 : w.cell? ⟨b1, 0, none⟩ = some (.int .u64 (n0 : Int))) (hc2 : Boxed w b2 35 (.int .u64 (s : Int))) :
    SeqStopsK F m Try.prog 32 #[.pointer (some ⟨b1, 0, none⟩), .pointer (some ⟨b2, 0, none⟩)] encW Kp (fun xs => CanF (upF s n0) xs ∧ 2147483647 < upF s n0 xs.length) (CanF (upF s n0)) 2147483648 w := fun l J Jx W hW hJ hJx hY h0 => by
  have k1 : W.cell? ⟨b1, 0, none⟩ = some (.int .u64 (n0 : Int)) := (hW.cell (p := ⟨b1, 0, none⟩) hb1).trans hc1
  have hbW : Boxed W b2 35 (.int .u64 (s : Int)) := boxed_below hc2 hW hb2
  have HBW := Lib.hid hbW
  clear hbW
  clear hc1 hc2
  refine callsIn_of_wp Try.func32 rfl hF ?_ hro
  simp only [Try.ntmps32, List.size_toArray, List.length_cons, List.length_nil, Nat.reduceAdd, Nat.reduceSub, Array.replicate_succ, Array.replicate_zero, List.push_toArray, List.append_toArray, List.nil_append, List.cons_append]
  gi_wp2
  gi_loopw [4] (fun p wr => ∃ (n j : Nat) (pre : List W32), p = .int .u64 (n : Int) ∧ n ≤ 1099511627776 ∧ upF s n0 j = n ∧ CanF (upF s n0) pre ∧ pre.length = j ∧ J pre wr ∧ Boxed wr b2 35 (.int .u64 (s : Int))) (fun p _ => 2147483648 - (intOf p).toNat)
  case atStart => exact ⟨n0, 0, [], rfl, hn0, by unfold upF; omega, CanF.nil _, rfl, h0, HBW.out⟩
  case round =>
    clear k1
    obtain ⟨n, j, pre, rfl, hn, hu, hcan, hlen, hJs, hbl⟩ := hrel
    have k2 := hbl.cell
    have HBL := Lib.hid hbl
    clear hbl
    have HLEN := Lib.hid hlen
    have HU := Lib.hid hu
    clear hlen
    by_cases hk : n ≤ 2147483647
    · have q2 : decide ((n : Int) ≤ 2147483647) = true := decide_eq_true (by omega)
      have hj := up_lt hs (show upF s n0 j ≤ 2147483647 by rw [hu]; exact hk)
      clear hu
      obtain ⟨fn, tmps, assign, body, hy, hR⟩ := hY pre ⟨n, hk⟩ _ hJs (by rw [HLEN.out]; omega)
      dsimp only [encW] at hy
      gi_wp2
      refine hR.mono ?_
      rintro e W2 (⟨rfl, hJ2, hkp⟩ | ⟨rfl, hx2⟩)
      · have hbl2 := Lib.hid (hKp _ _ hkp HBL.out)
        have k3 := hbl2.out.cell
        gi_wp2
        go_roundw
        case rel => exact ⟨n + s, j + 1, _, by go_num, by omega, by rw [← HU.out]; unfold upF; rw [Nat.succ_mul, Nat.add_assoc], hcan.snoc (by rw [HLEN.out]; exact HU.out.symm), by rw [List.length_append, HLEN.out]; rfl, hJ2, hbl2.out⟩
        case measure => simp only [intOf]; omega
      · gi_wp2
        refine bodyPost_ret (results_none rfl _ _ _) rfl ?_
        exact ⟨⟨_, rfl⟩, .inr ⟨_, hcan.snoc (by rw [HLEN.out]; exact HU.out.symm), hx2⟩⟩
    · have q2 : decide ((n : Int) ≤ 2147483647) = false := decide_eq_false (by omega)
      clear hu
      gi_wp2
      go_end0
      exact ⟨⟨_, rfl⟩, .inl ⟨pre, ⟨hcan, by rw [HLEN.out, HU.out]; omega⟩, hJs⟩⟩
end Go.Proofs.Ythepdpfiahcfmaa
