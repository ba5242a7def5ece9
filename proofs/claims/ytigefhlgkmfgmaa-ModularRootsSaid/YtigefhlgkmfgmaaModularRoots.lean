/- The walk of the law ModularRoots: it returns true. -/
import Derived.Test.YtigefhlgkmfgmaaShown
import Derived.Test.YtigefhlgkmfgmaaArgs
namespace Go.Proofs.Ytigefhlgkmfgmaa
open Go.RowKit
set_option linter.unusedVariables false

theorem ord_one {n v o k : Nat} (h : Ordr n v o) (hn : 2 ≤ n) (h1 : 1 ≤ k) (h2 : k ≤ o) : v ^ k % n = 1 ↔ k = o := by
  have e : v ^ k % n = 1 ↔ Mr.U n v k := by unfold Mr.U; rw [Nat.mod_eq_of_lt (show 1 < n by omega)]
  rw [e]
  constructor
  · intro hu
    have := Nat.le_of_dvd (by omega) (h.2.2 k hu)
    omega
  · rintro rfl
    exact h.2.1

set_option maxRecDepth 100000 in
set_option maxHeartbeats 1000000 in
theorem modularRoots_any (o n : Nat) (w : World) (ho : o ≤ 4294967295) (hn : n ≤ 4294967295) : Calls Try.prog 9 #[.int .u32 o, .int .u32 n] w (RetV w (.bool true)) := by
  have H1 := Lib.hid (root_any o n w hn ho)
  go_enter Try.func9, Try.ntmps9
  go_wp2_with fail
  (with_reducible refine H1.out.mono ?_)
  rintro e w1 ⟨v, E, rfl, hr, hb1⟩
  rcases hr with ⟨_, rfl, rfl⟩ | ⟨_, h2, rfl, rfl⟩ | ⟨_, _, _, rfl, rfl⟩ | ⟨hpre, ho2, hd, rfl, hl⟩
  · go_wp2_with fail
    (with_reducible refine (shown_any w1).mono ?_)
    rintro e w5 ⟨rfl, hb5⟩
    go_wp2_with fail
    go_ret
    exact ⟨rfl, hb1.trans (hb5.mono hb1.size)⟩
  · have q1 : decide ((o : Int) > 65536) = true := decide_eq_true (by omega)
    go_wp2_with fail
    (with_reducible refine (shown_any w1).mono ?_)
    rintro e w5 ⟨rfl, hb5⟩
    go_wp2_with fail
    go_ret
    exact ⟨rfl, hb1.trans (hb5.mono hb1.size)⟩
  · go_wp2_with fail
    (with_reducible refine (shown_any w1).mono ?_)
    rintro e w5 ⟨rfl, hb5⟩
    go_wp2_with fail
    go_ret
    exact ⟨rfl, hb1.trans (hb5.mono hb1.size)⟩
  obtain ⟨hn2, hn3, hpr, ho1⟩ := hpre
  have hv1 := hl.pos hpr
  have hvn := hl.2.1
  have HL := Lib.hid hl
  have HPR := Lib.hid hpr
  have hv0 : ¬ v < 1 := by omega
  clear hl hpr hd H1
  have q1 : decide ((o : Int) < 1) = false := decide_eq_false (by omega)
  have q2 : decide ((o : Int) > 65536) = false := decide_eq_false (by omega)
  have q3 : decide ((n : Int) < 2) = false := decide_eq_false (by omega)
  have q4 : decide ((v : Int) < 1) = false := decide_eq_false (by omega)
  have q5 : decide ((v : Int) ≥ (n : Int)) = false := decide_eq_false (by omega)
  have q55 : decide (n ≤ v) = false := decide_eq_false (by omega)
  go_wp2_with fail
  go_loop [7, 8] (fun At K => ∃ at' k k1 : Nat, At = .int .u64 (at' : Int) ∧ K = .int .u32 (k1 : Int) ∧ k1 ≤ k + 1 ∧ k + 1 ≤ k1 ∧ k ≤ o ∧ at' < n ∧ v ^ k % n = at') (fun _ K => o + 1 - (intOf K).toNat)
  case atStart => exact ⟨1, 0, 1, rfl, rfl, by omega, by omega, Nat.zero_le _, by omega, by rw [Nat.pow_zero]; exact Nat.mod_eq_of_lt (by omega)⟩
  case round =>
    obtain ⟨at', k, k1, rfl, rfl, hk11, hk12, hko, hat, hpw⟩ := hrel
    have HKE := Lib.hid (show k1 = k + 1 by omega)
    have HPW := Lib.hid hpw
    clear hpw
    by_cases hin : k < o
    · have q6 : decide ((k1 : Int) ≤ (o : Int)) = true := decide_eq_true (by omega)
      obtain ⟨nx, hnx⟩ : ∃ nx, at' * v % n = nx := ⟨_, rfl⟩
      have hnxn : nx < n := by rw [← hnx]; exact Nat.mod_lt _ (by omega)
      have m1 := mul_lt_int32 (show at' ≤ 4294967295 by omega) (show v ≤ 4294967295 by omega)
      have hmod : (at' : Int) * (v : Int) % (n : Int) = (nx : Int) := by rw [← hnx]; simp
      have hpx : v ^ k1 % n = nx := by rw [HKE.out, Nat.pow_succ, ← hnx, ← HPW.out, Nat.mod_mul_mod]
      have HPX := Lib.hid hpx
      have hone := ord_one HL.out.1 hn2 (show 1 ≤ k1 by omega) (show k1 ≤ o by omega)
      rw [hpx] at hone
      obtain ⟨g, hg⟩ : ∃ g, Nat.gcd k1 o = g := ⟨_, rfl⟩
      have hgo : g ≤ o := by rw [← hg]; exact Nat.le_of_dvd (by omega) (Nat.gcd_dvd_right _ _)
      have HCO := Lib.hid (common_any k1 o w1 (by omega) ho)
      rw [hg] at HCO
      obtain ⟨bb, hbb1, hbb2⟩ : ∃ bb, ((nx : Int) == 1) = bb ∧ ((k1 : Int) == (o : Int)) = bb := by
        by_cases h : nx = 1
        · exact ⟨true, by rw [h]; rfl, by rw [hone.1 h]; simp⟩
        · have h2 : ¬ k1 = o := fun h3 => h (hone.2 h3)
          exact ⟨false, by simp; omega, by simp; omega⟩
      have hlg : nx < v → ¬ g = 1 := fun h1 h2 => by
        have h3 := HL.out.1.pow (hg.trans h2)
        rw [hpx] at h3
        have := HL.out.2.2 nx hnxn h3
        omega
      have HLG := Lib.hid hlg
      clear hnx hpx hone hg hlg
      by_cases hlt : nx < v
      · have q8 : decide ((nx : Int) < (v : Int)) = true := decide_eq_true (by omega)
        have hg1 := HLG.out hlt
        have q9 : ((g : Int) == 1) = false := by simp; omega
        go_wp2_with fail
        (with_reducible refine HCO.out.mono ?_)
        rintro e w2 ⟨rfl, hw2⟩
        subst hw2
        go_wp2
        go_round
        case rel => exact ⟨nx, k1, k1 + 1, by first | rfl | rw [hmod], by go_num, by omega, by omega, by omega, hnxn, HPX.out⟩
        case measure => simp only [intOf]; omega
      · have q8 : decide ((nx : Int) < (v : Int)) = false := decide_eq_false (by omega)
        go_wp2
        go_round
        case rel => exact ⟨nx, k1, k1 + 1, by first | rfl | rw [hmod], by go_num, by omega, by omega, by omega, hnxn, HPX.out⟩
        case measure => simp only [intOf]; omega
    · have q6 : decide ((k1 : Int) ≤ (o : Int)) = false := decide_eq_false (by omega)
      have hz1 := hb1.size
      go_wp2_with fail
      go_loopw [9] (fun I wr => ∃ a : Nat, I = .int .u32 (a : Int) ∧ 1 ≤ a ∧ a ≤ v ∧ Below w1.heap.size w1 wr) (fun I _ => v - (intOf I).toNat)
      case atStart => exact ⟨1, rfl, Nat.le_refl _, hv1, Below.refl _ _⟩
      case round =>
        obtain ⟨a, rfl, ha1, hav, hbl⟩ := hrel
        have hzr := hbl.size
        by_cases hgo : n < 2000 ∧ a < v
        · obtain ⟨hn20, halt⟩ := hgo
          have q7 : decide ((n : Int) < 2000) = true := decide_eq_true (by omega)
          have q8 : decide ((a : Int) < (v : Int)) = true := decide_eq_true (by omega)
          go_wp2_with fail
          (with_reducible refine (order_any a n wr hn (by omega)).mono ?_)
          rintro e w2 ⟨m, E, rfl, hr, hb2⟩
          rcases hr with ⟨hno, _⟩ | ⟨_, rfl, hor⟩
          · exact absurd ⟨hn2, hn3, by omega, by omega, HPR.out⟩ hno
          · have hmo : ¬ m = o := fun h => by
              rw [h] at hor
              have := HL.out.2.2 a (by omega) hor
              omega
            have q9 : ((m : Int) == (o : Int)) = false := by simp; omega
            clear hor
            go_wp2
            go_roundw
            case rel => exact ⟨a + 1, by go_num, by omega, by omega, hbl.trans (hb2.mono hzr)⟩
            case measure => simp only [intOf]; omega
        · by_cases hn20 : n < 2000
          · have q7 : decide ((n : Int) < 2000) = true := decide_eq_true (by omega)
            have q8 : decide ((a : Int) < (v : Int)) = false := decide_eq_false (by omega)
            go_wp2_with fail
            (with_reducible refine (shown_any wr).mono ?_)
            rintro e w5 ⟨rfl, hb5⟩
            go_wp2_with fail
            go_ret
            exact ⟨rfl, hb1.trans ((hbl.trans (hb5.mono hzr)).mono hz1)⟩
          · have q7 : decide ((n : Int) < 2000) = false := decide_eq_false (by omega)
            go_wp2_with fail
            (with_reducible refine (shown_any wr).mono ?_)
            rintro e w5 ⟨rfl, hb5⟩
            go_wp2_with fail
            go_ret
            exact ⟨rfl, hb1.trans ((hbl.trans (hb5.mono hzr)).mono hz1)⟩
end Go.Proofs.Ytigefhlgkmfgmaa
