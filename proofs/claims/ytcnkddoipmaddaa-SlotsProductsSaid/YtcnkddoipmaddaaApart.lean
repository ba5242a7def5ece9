/- The contracts of modular.apart and of the reference's Common. -/
import Derived.Test.YtcnkddoipmaddaaFactors
namespace Go.Proofs.Ytcnkddoipmaddaa
open Go.RowKit
set_option linter.unusedVariables false

/-- none of the listed numbers divides k -/
def apB (k : Nat) (l : List (Nat × Nat)) : Bool := l.all fun x => decide (¬ x.1 ∣ k)
theorem apB_no {k i : Nat} {l : List (Nat × Nat)} {x : Nat × Nat} (h : l[i]? = some x) (hd : x.1 ∣ k) : apB k l = false := by
  unfold apB
  rw [List.all_eq_false]
  exact ⟨x, List.mem_of_getElem? h, by simp [hd]⟩
theorem apB_yes {k : Nat} {l : List (Nat × Nat)} (h : ∀ (i : Nat) (x : Nat × Nat), l[i]? = some x → ¬ x.1 ∣ k) : apB k l = true := by
  unfold apB
  rw [List.all_eq_true]
  intro x hx
  obtain ⟨i, hi⟩ := List.getElem?_of_mem hx
  simp [h i x hi]

set_option maxHeartbeats 1000000 in
theorem apart_any (k c : Nat) (A : Option Addr) (l : List (Nat × Nat)) (w : World) (lo hi : Nat) (h : Pw w lo hi A l) (hk : k ≤ 4294967295) (hl : l.length ≤ 40) (hp : ∀ x ∈ l, 0 < x.1 ∧ x.1 ≤ 4294967295) (hhi : hi ≤ w.heap.size) :
    Calls Try.prog 56 #[.int .u32 k, .slice A l.length c] w (RetV w (.bool (apB k l))) := by
  go_enter Try.func56, Try.ntmps56
  go_wp2_with fail
  go_loopw [9] (fun I wr => ∃ i : Nat, I = .int .i64 (i : Int) ∧ i ≤ l.length ∧ (∀ (j : Nat) (x : Nat × Nat), j < i → l[j]? = some x → ¬ x.1 ∣ k) ∧ Below w.heap.size w wr) (fun I _ => l.length - (intOf I).toNat)
  case atStart => exact ⟨0, rfl, Nat.zero_le _, fun j x h => absurd h (Nat.not_lt_zero j), Below.refl _ _⟩
  case round =>
    obtain ⟨i, rfl, hi', hun, hbl⟩ := hrel
    by_cases hin : i < l.length
    · obtain ⟨b, rfl, hb1, hb2, hcell⟩ := h (by intro e; rw [e] at hin; exact absurd hin (Nat.not_lt_zero i))
      obtain ⟨x, hx⟩ : ∃ x, l[i]? = some x := ⟨l[i], List.getElem?_eq_getElem hin⟩
      obtain ⟨k1, k2⟩ := hcell i x hx
      have k1 := (hbl.cell (p := ⟨b, i * 2, none⟩) (by show b < _; omega)).trans k1
      have k2 := (hbl.cell (p := ⟨b, i * 2 + 1, none⟩) (by show b < _; omega)).trans k2
      have hbn := hbl.alloc hbl.size (.cells #[.int .u32 (x.1 : Int), .int .i64 (x.2 : Int)] 90)
      obtain ⟨hp1, hp2⟩ := hp x (List.mem_of_getElem? hx)
      have HU := Lib.hid hun
      have HXX := Lib.hid hx
      clear hcell hun hx
      obtain ⟨p, e⟩ := x
      simp only at k1 k2 hp1 hp2
      have hp0 : ¬ p = 0 := by omega
      by_cases hd : p ∣ k
      · have hmod : (k : Int) % (p : Int) = 0 := by obtain ⟨q, hq⟩ := hd; rw [hq, Int.natCast_mul]; exact Int.mul_emod_right _ _
        have hmodt : (k : Int).tmod (p : Int) = 0 := by rw [Int.tmod_eq_emod_of_nonneg (by omega), hmod]
        have hB := apB_no HXX.out hd
        have HB := Lib.hid hB
        clear hB
        go_wp2
        go_ret
        exact ⟨by rw [HB.out]; rfl, hbn⟩
      · have hr0 : 0 < k % p := Nat.pos_of_ne_zero fun h => hd (Nat.dvd_of_mod_eq_zero h)
        obtain ⟨r, hr⟩ : ∃ r, k % p = r := ⟨_, rfl⟩
        rw [hr] at hr0
        have hmod : (k : Int) % (p : Int) = (r : Int) := by rw [← hr]; simp
        have hmodt : (k : Int).tmod (p : Int) = (r : Int) := by rw [Int.tmod_eq_emod_of_nonneg (by omega), hmod]
        have hre : ((r : Int) == 0) = false := by simp; omega
        have hrz : ¬ (r : Int) = 0 := by omega
        clear hr
        go_wp2
        go_roundw
        case rel =>
          have hr : ∀ (j : Nat) (x : Nat × Nat), j < i + 1 → l[j]? = some x → ¬ x.1 ∣ k := fun j x h1 h2 => by
            rcases Nat.lt_or_ge j i with h3 | h3
            · exact HU.out j x h3 h2
            · obtain rfl : j = i := by omega
              rw [HXX.out] at h2
              injection h2 with h2
              rw [← h2]
              exact hd
          exact ⟨i + 1, by go_num, hin, hr, hbn⟩
        case measure => simp only [intOf]; omega
    · have hB : apB k l = true := apB_yes fun j x hj => hun j x (by have := (List.getElem?_eq_some_iff.1 hj).1; omega) hj
      have HB := Lib.hid hB
      clear hun hB
      go_wp2
      go_ret
      exact ⟨by rw [HB.out]; rfl, hbl⟩

end Go.Proofs.Ytcnkddoipmaddaa
