/- The table of the transform in memory; the contracts of is, Root, power and back. -/
import Derived.Test.YtbajapjaejpcjaaFft
import Derived.Test.YtbajapjaejpcjaaRet
namespace Go.Proofs.Ytbajapjaejpcjaa
open Go.RowKit
set_option linter.unusedVariables false

structure Tb (W : World) (b n q : Nat) (P : Nat → Nat) (s : Nat) : Prop where
  cN : W.cell? ⟨b, 0, none⟩ = some (.int .i64 (n : Int))
  cQ : W.cell? ⟨b, 1, none⟩ = some (.int .u64 (q : Int))
  cP : ∀ i, i < 64 → W.cell? ⟨b, 2 + i, none⟩ = some (.int .u32 ((P i : Nat) : Int))
  cS : W.cell? ⟨b, 66, none⟩ = some (.int .u64 (s : Int))
  lt : b < W.heap.size

set_option maxHeartbeats 400000 in
theorem tpower_any (b n q k s : Nat) (P : Nat → Nat) (w : World) (h : Tb w b n q P s) (hn : 1 ≤ n) (hn2 : n ≤ 32) (hk : k ≤ 100000) (hP : ∀ i, P i ≤ 4294967295) :
    Calls Try.prog 26 #[.pointer (some ⟨b, 0, none⟩), .int .i64 (k : Int)] w fun e w' => e = .returned (.int .u64 ((P (k % (2 * n)) : Nat) : Int)) ∧ ∃ m, w' = w.drewN m := by
  have c1 := h.cN
  obtain ⟨r, hr⟩ : ∃ r, k % (2 * n) = r := ⟨_, rfl⟩
  have hr2 : r < 2 * n := by rw [← hr]; exact Nat.mod_lt _ (by omega)
  have hri : (k : Int) % (2 * (n : Int)) = (r : Int) := by rw [← hr]; simp
  have hrit : (k : Int).tmod (2 * (n : Int)) = (r : Int) := by rw [Int.tmod_eq_emod_of_nonneg (by omega), hri]
  have c2 := h.cP r (by omega)
  have hPr := hP r
  rw [hr]
  obtain ⟨x, hx⟩ : ∃ x, P r = x := ⟨_, rfl⟩
  rw [hx] at c2 hPr ⊢
  have hn0 : ¬ n = 0 := by omega
  clear h hP hr hx
  go_enter Try.func26, Try.ntmps26
  go_wp2
  go_quiet (fail)
  go_wp2
  go_ret
  exact ⟨rfl, _, rfl⟩

set_option maxHeartbeats 400000 in
theorem tback_any (b n q k s : Nat) (P : Nat → Nat) (w : World) (h : Tb w b n q P s) (hn : 1 ≤ n) (hn2 : n ≤ 32) (hk : k ≤ 100000) (hP : ∀ i, P i ≤ 4294967295) :
    Calls Try.prog 29 #[.pointer (some ⟨b, 0, none⟩), .int .i64 (k : Int)] w fun e w' => e = .returned (.int .u64 ((P ((2 * n - k % (2 * n)) % (2 * n)) : Nat) : Int)) ∧ ∃ m, w' = w.drewN m := by
  have c1 := h.cN
  obtain ⟨r, hr⟩ : ∃ r, k % (2 * n) = r := ⟨_, rfl⟩
  have hr2 : r < 2 * n := by rw [← hr]; exact Nat.mod_lt _ (by omega)
  have hri : (k : Int) % (2 * (n : Int)) = (r : Int) := by rw [← hr]; simp
  have hrit : (k : Int).tmod (2 * (n : Int)) = (r : Int) := by rw [Int.tmod_eq_emod_of_nonneg (by omega), hri]
  rw [hr]
  obtain ⟨v, hv⟩ : ∃ v, (2 * n - r) % (2 * n) = v := ⟨_, rfl⟩
  have hv2 : v < 2 * n := by rw [← hv]; exact Nat.mod_lt _ (by omega)
  have hvi : (2 * (n : Int) - (r : Int)) % (2 * (n : Int)) = (v : Int) := by rw [← hv, Int.natCast_emod, Int.ofNat_sub (by omega)]; simp
  have hvit : (2 * (n : Int) - (r : Int)).tmod (2 * (n : Int)) = (v : Int) := by rw [Int.tmod_eq_emod_of_nonneg (by omega), hvi]
  have c2 := h.cP v (by omega)
  have hPr := hP v
  rw [hv]
  obtain ⟨x, hx⟩ : ∃ x, P v = x := ⟨_, rfl⟩
  rw [hx] at c2 hPr ⊢
  have hn0 : ¬ n = 0 := by omega
  clear h hP hr hx hv
  go_enter Try.func29, Try.ntmps29
  go_wp2
  go_quiet (fail)
  go_wp2
  go_ret
  exact ⟨rfl, _, rfl⟩
theorem tis_nil (w : World) : Calls Try.prog 35 #[.pointer none] w (RetP w (.bool false)) := by
  go_enter Try.func35, Try.ntmps35
  go_wp2
  go_ret
  exact ⟨rfl, rfl⟩
theorem tis_no (b : Nat) (w : World) (h : w.cell? ⟨b, 0, none⟩ = some (.int .i64 0)) : Calls Try.prog 35 #[.pointer (some ⟨b, 0, none⟩)] w (RetP w (.bool false)) := by
  go_enter Try.func35, Try.ntmps35
  go_wp2
  go_ret
  exact ⟨rfl, rfl⟩
theorem tis_yes (b n : Nat) (w : World) (h : w.cell? ⟨b, 0, none⟩ = some (.int .i64 (n : Int))) (hn : 1 ≤ n) : Calls Try.prog 35 #[.pointer (some ⟨b, 0, none⟩)] w (RetP w (.bool true)) := by
  have q1 : decide ((n : Int) > 0) = true := decide_eq_true (by omega)
  have q2 : 0 < n := hn
  go_enter Try.func35, Try.ntmps35
  go_wp2
  go_ret
  exact ⟨rfl, rfl⟩
theorem troot_nil (w : World) : Calls Try.prog 22 #[.pointer none] w (RetP w (.int .u32 0)) := by
  go_enter Try.func22, Try.ntmps22
  go_wp2_with fail
  (with_reducible refine (tis_nil w).mono ?_)
  rintro e w1 ⟨rfl, hw1⟩
  subst hw1
  go_wp2_with fail
  go_ret
  exact ⟨rfl, rfl⟩
theorem troot_no (b : Nat) (w : World) (h : w.cell? ⟨b, 0, none⟩ = some (.int .i64 0)) : Calls Try.prog 22 #[.pointer (some ⟨b, 0, none⟩)] w (RetP w (.int .u32 0)) := by
  go_enter Try.func22, Try.ntmps22
  go_wp2_with fail
  (with_reducible refine (tis_no b w h).mono ?_)
  rintro e w1 ⟨rfl, hw1⟩
  subst hw1
  go_wp2_with fail
  go_ret
  exact ⟨rfl, rfl⟩
theorem troot_yes (b n q s : Nat) (P : Nat → Nat) (w : World) (h : Tb w b n q P s) (hn : 1 ≤ n) : Calls Try.prog 22 #[.pointer (some ⟨b, 0, none⟩)] w (RetP w (.int .u32 ((P 1 : Nat) : Int))) := by
  have HI := Lib.hid (tis_yes b n w h.cN hn)
  have c3 := h.cP 1 (by omega)
  clear h
  go_enter Try.func22, Try.ntmps22
  go_wp2_with fail
  (with_reducible refine HI.out.mono ?_)
  rintro e w1 ⟨rfl, hw1⟩
  subst hw1
  go_wp2_with fail
  go_ret
  exact ⟨rfl, rfl⟩
end Go.Proofs.Ytbajapjaejpcjaa
