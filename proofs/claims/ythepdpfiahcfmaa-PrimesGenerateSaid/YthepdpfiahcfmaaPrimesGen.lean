/- The walk of the law PrimesGenerate: it returns true. -/
import Derived.Test.YthepdpfiahcfmaaShown3
namespace Go.Proofs.Ythepdpfiahcfmaa
open Go.RowKit
set_option linter.unusedVariables false

/-- the powers so far: the last one is x, none before it was 1 -/
def GI (p a s x : Nat) : Prop := a ^ s % p = x ∧ ∀ i, 0 < i → i < s → ¬ Mr.U p a i
theorem GI.start {p a : Nat} (h : a < p) : GI p a 1 a := ⟨by rw [Nat.pow_one]; exact Nat.mod_eq_of_lt h, fun i h1 h2 => by omega⟩
theorem GI.next {p a s x : Nat} (h : GI p a s x) (hp : 2 ≤ p) (hx : x ≠ 1) : GI p a (s + 1) (x * a % p) := by
  refine ⟨by rw [Nat.pow_succ, ← h.1, Nat.mod_mul_mod], fun i h1 h2 hu => ?_⟩
  rcases Nat.lt_or_ge i s with h3 | h3
  · exact h.2 i h1 h3 hu
  · obtain rfl : i = s := by omega
    unfold Mr.U at hu
    rw [h.1, Nat.mod_eq_of_lt (by omega : 1 < p)] at hu
    exact hx hu
theorem GI.done {p a s : Nat} (h : GI p a s 1) (hp : 2 ≤ p) (hs : 0 < s) : Ordr p a s := by
  have hu : Mr.U p a s := by unfold Mr.U; rw [h.1, Nat.mod_eq_of_lt (by omega : 1 < p)]
  refine ⟨hs, hu, fun e he => ?_⟩
  have hg := Mr.U.gcd e s he hu
  have h1 := Nat.gcd_pos_of_pos_right e hs
  have h2 := Nat.gcd_dvd_right e s
  have h3 := Nat.le_of_dvd hs h2
  rcases Nat.lt_or_ge (Nat.gcd e s) s with h4 | h4
  · exact absurd hg (h.2 _ h1 h4)
  · have h5 : Nat.gcd e s = s := by omega
    have h6 := Nat.gcd_dvd_left e s
    rw [h5] at h6
    exact h6
theorem GI.bound {p a s x : Nat} (h : GI p a s x) (hpr : Mr.Pr p) (ha : 1 ≤ a) (hap : a < p) (hx : x ≠ 1) : s + 1 < p := by
  have hp := hpr.1
  have hf := U.fermat hpr ha hap
  rcases Nat.lt_or_ge (s + 1) p with h1 | h1
  · exact h1
  · exfalso
    rcases Nat.lt_or_ge (p - 1) s with h2 | h2
    · exact h.2 _ (by omega) h2 hf
    · obtain rfl : s = p - 1 := by omega
      unfold Mr.U at hf
      rw [h.1, Nat.mod_eq_of_lt (by omega : 1 < p)] at hf
      exact hx hf

set_option maxRecDepth 100000 in
set_option maxHeartbeats 2000000 in
theorem primesGenerate_any (p : Nat) (w : World) (hp : p ≤ 4294967295) : Calls Try.prog 7 #[.int .u32 p] w (RetV w (.bool true)) := by
  by_cases hbig : 3000 ≤ p
  · have q1 : decide ((p : Int) ≥ 3000) = true := decide_eq_true (by omega)
    go_enter Try.func7, Try.ntmps7
    go_wp2_with fail
    (with_reducible refine (shown_any w).mono ?_)
    rintro e w1 ⟨rfl, hb1⟩
    go_wp2_with fail
    go_ret
    exact ⟨rfl, hb1⟩
  have q1 : decide ((p : Int) ≥ 3000) = false := decide_eq_false (by omega)
  have HG := Lib.hid (pgen_any p w hp)
  go_enter Try.func7, Try.ntmps7
  go_wp2_with fail
  (with_reducible refine HG.out.mono ?_)
  rintro e w1 ⟨v, E, rfl, hr, hb1⟩
  have hz1 := hb1.size
  rcases hr with ⟨_, rfl, rfl⟩ | ⟨⟨hp31, hpr⟩, hg, rfl⟩
  · go_wp2_with fail
    (with_reducible refine (shown_any w1).mono ?_)
    rintro e w2 ⟨rfl, hb2⟩
    go_wp2_with fail
    go_ret
    exact ⟨rfl, hb1.trans (hb2.mono hz1)⟩
  have hp2 := hpr.1
  have hv1 := hg.pos hpr
  have hvp := hg.2.1
  have HPR := Lib.hid hpr
  have HLE := Lib.hid hg
  have q2 : decide ((p : Int) < 2) = false := decide_eq_false (by omega)
  have q3 : decide ((v : Int) < 1) = false := decide_eq_false (by omega)
  have q4 : decide ((v : Int) ≥ (p : Int)) = false := decide_eq_false (by omega)
  have q4' : ¬ p ≤ v := by omega
  clear hpr hg
  go_wp2_with fail
  go_loop [5] (fun A => ∃ a : Nat, A = .int .u32 (a : Int) ∧ 1 ≤ a ∧ a ≤ v + 1) (fun A => v + 1 - (intOf A).toNat)
  case atStart => exact ⟨1, rfl, Nat.le_refl _, by omega⟩
  case round =>
    obtain ⟨a, rfl, ha1, hav⟩ := hrel
    by_cases hin : a ≤ v
    · have q5 : decide ((a : Int) ≤ (v : Int)) = true := decide_eq_true (by omega)
      go_wp2_with fail
      go_loop [6, 7] (fun S X => ∃ s x : Nat, S = .int .u32 (s : Int) ∧ X = .int .u32 (x : Int) ∧ 1 ≤ s ∧ s < p ∧ x < p ∧ GI p a s x) (fun S _ => p - (intOf S).toNat)
      case atStart => exact ⟨1, a, rfl, rfl, Nat.le_refl _, by omega, by omega, GI.start (by omega)⟩
      case round =>
        obtain ⟨s, x, rfl, rfl, hs1, hsp, hxp, hgi⟩ := hrel
        have HGI := Lib.hid hgi
        clear hgi
        by_cases hx : x = 1
        · subst hx
          have hod := HGI.out.done hp2 (by omega)
          by_cases hav2 : a = v
          · subst hav2
            have hsp1 : p - 1 = s := HLE.out.1.uniq hod
            have q6 : ((s : Int) == (p : Int) - 1) = true := by simp; omega
            have HSP := Lib.hid hsp1
            clear hod hsp1
            go_wp2
            go_round
            case rel => exact ⟨a + 1, by go_num, by omega, by omega⟩
            case measure => simp only [intOf]; omega
          · have hsp1 : s ≠ p - 1 := fun h => by
              rw [h] at hod
              have := HLE.out.2.2 a (by omega) hod
              omega
            have q6 : ((s : Int) == (p : Int) - 1) = false := by simp; omega
            have q7 : ((a : Int) == (v : Int)) = false := by simp; omega
            clear hod
            go_wp2
            go_round
            case rel => exact ⟨a + 1, by go_num, by omega, by omega⟩
            case measure => simp only [intOf]; omega
        · have hb := HGI.out.bound HPR.out ha1 (by omega) hx
          have q8 : ((x : Int) != 1) = true := by simp; omega
          have q9 : decide ((s : Int) < (p : Int)) = true := decide_eq_true (by omega)
          obtain ⟨m, hm⟩ : ∃ m, x * a = m := ⟨_, rfl⟩
          have hmi : (x : Int) * (a : Int) = (m : Int) := by rw [← hm]; simp
          have hmb : m ≤ 9000000 := by rw [← hm]; exact Nat.mul_le_mul (show x ≤ 3000 by omega) (show a ≤ 3000 by omega)
          obtain ⟨r, hr⟩ : ∃ r, m % p = r := ⟨_, rfl⟩
          have hri : (m : Int) % (p : Int) = (r : Int) := by rw [← hr]; simp
          have hrit : (m : Int).tmod (p : Int) = (r : Int) := by rw [Int.tmod_eq_emod_of_nonneg (by omega), hri]
          have hrp : r < p := by rw [← hr]; exact Nat.mod_lt _ (by omega)
          have HNX : Hid (GI p a (s + 1) r) := Lib.hid (by rw [← hr, ← hm]; exact HGI.out.next hp2 hx)
          have hp0 : ¬ p = 0 := by omega
          clear hm hr
          go_wp2
          go_round
          case rel => exact ⟨s + 1, r, by go_num, rfl, by omega, by omega, hrp, HNX.out⟩
          case measure => simp only [intOf]; omega
    · have q5 : decide ((a : Int) ≤ (v : Int)) = false := decide_eq_false (by omega)
      go_wp2_with fail
      (with_reducible refine (shown_any w1).mono ?_)
      rintro e w2 ⟨rfl, hb2⟩
      go_wp2_with fail
      go_ret
      exact ⟨rfl, hb1.trans (hb2.mono hz1)⟩
end Go.Proofs.Ythepdpfiahcfmaa
