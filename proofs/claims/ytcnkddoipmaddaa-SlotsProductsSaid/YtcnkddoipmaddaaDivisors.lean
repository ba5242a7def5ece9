/- The iterator divisors of modular.Factors: its contract. -/
import Derived.Test.YtcnkddoipmaddaaMarks
import Derived.Test.YtcnkddoipmaddaaRet
namespace Go.Proofs.Ytcnkddoipmaddaa
open Go.RowKit Go.Shelf
set_option linter.unusedVariables false

/-- the divisors that are tried: 2 and the odd numbers -/
def el : Nat → Nat
  | 0 => 2
  | j + 1 => 2 * j + 3
abbrev Dv1 := { d : Nat // 2 ≤ d ∧ d < 65536 }
def encD (x : Dv1) : Array Value := #[.int .u32 (x.1 : Int)]
def Can (pre : List Dv1) : Prop := pre.map (·.1) = (List.range pre.length).map el
theorem Can.nil : Can [] := rfl
theorem Can.snoc {pre : List Dv1} {x : Dv1} (h : Can pre) (hx : x.1 = el pre.length) : Can (pre ++ [x]) := by
  unfold Can at *
  rw [List.map_append, h, List.length_append, List.length_singleton, List.range_succ, List.map_append]
  simp [hx]
theorem Can.init {pre : List Dv1} {x : Dv1} (h : Can (pre ++ [x])) : Can pre ∧ x.1 = el pre.length := by
  unfold Can at *
  rw [List.map_append, List.length_append, List.length_singleton, List.range_succ, List.map_append] at h
  have h1 := List.append_inj h (by simp)
  exact ⟨h1.1, by simpa using h1.2⟩

set_option maxHeartbeats 1000000 in
theorem divisors_stops {Kp : World → World → Prop} (F : Fence) (m : Nat) (hF : F.fn 65) (hro : F.round = none) (hm : 1 ≤ m) (w : World) :
    SeqStopsK F m Try.prog 65 #[] encD Kp (fun xs => Can xs ∧ xs.length = 32768) Can 32768 w := fun l J Jx W hW hJ hJx hY h0 => by
  refine callsIn_of_wp Try.func65 rfl hF ?_ hro
  simp only [Try.ntmps65, List.size_toArray, List.length_cons, List.length_nil, Nat.reduceAdd, Nat.reduceSub, Array.replicate_succ, Array.replicate_zero, List.push_toArray, List.append_toArray, List.nil_append, List.cons_append]
  obtain ⟨f1, t1, a1, b1, hy1, hR1⟩ := hY [] ⟨2, by omega, by omega⟩ W h0 (by simp)
  have hy : Sem.run Try.prog (Instr.yield l #[.int .u32 2]) W = _ := hy1
  gi_wp2
  refine hR1.mono ?_
  rintro e W1 (⟨rfl, hJ1, _⟩ | ⟨rfl, hx1⟩)
  · gi_wp2
    gi_loopw [2] (fun p wr => ∃ (j : Nat) (pre : List Dv1), p = .int .u32 ((2 * j + 3 : Nat) : Int) ∧ j ≤ 32767 ∧ Can pre ∧ pre.length = j + 1 ∧ J pre wr) (fun p _ => 65540 - (intOf p).toNat)
    case atStart => exact ⟨0, [⟨2, by omega, by omega⟩], rfl, Nat.zero_le _, Can.snoc Can.nil rfl, rfl, hJ1⟩
    case round =>
      obtain ⟨j, pre, rfl, hj, hcan, hlen, hJs⟩ := hrel
      by_cases hjn : j < 32767
      · obtain ⟨fn, tmps, assign, body, hy, hR⟩ := hY pre ⟨2 * j + 3, by omega, by omega⟩ _ hJs (by omega)
        dsimp only [encD] at hy
        have hlt : decide (((2 * j + 3 : Nat) : Int) < 65536) = true := decide_eq_true (by omega)
        obtain ⟨d, hd⟩ : ∃ d, 2 * j + 3 = d := ⟨_, rfl⟩
        rw [hd] at hy hlt ⊢
        gi_wp2
        refine hR.mono ?_
        rintro e W2 (⟨rfl, hJ2, _⟩ | ⟨rfl, hx2⟩)
        · gi_wp2
          go_roundw
          case rel => exact ⟨j + 1, _, by go_num, by omega, hcan.snoc (by rw [hlen]; rfl), by rw [List.length_append, hlen]; rfl, hJ2⟩
          case measure => simp only [intOf]; omega
        · gi_wp2
          refine bodyPost_ret (results_none rfl _ _ _) rfl ?_
          exact ⟨⟨_, rfl⟩, .inr ⟨_, hcan.snoc (by rw [hlen]; rfl), hx2⟩⟩
      · obtain rfl : j = 32767 := by omega
        gi_wp2
        go_end0
        exact ⟨⟨_, rfl⟩, .inl ⟨pre, ⟨hcan, hlen⟩, hJs⟩⟩
  · gi_wp2
    refine bodyPost_ret (results_none rfl _ _ _) rfl ?_
    exact ⟨⟨_, rfl⟩, .inr ⟨_, Can.snoc Can.nil rfl, hx1⟩⟩
end Go.Proofs.Ytcnkddoipmaddaa
