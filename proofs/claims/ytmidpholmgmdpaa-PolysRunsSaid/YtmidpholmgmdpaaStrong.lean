/- Contracts: the strong test, in the program and in the reference. -/
import Derived.Test.YtmidpholmgmdpaaPow
import Derived.Test.YtmidpholmgmdpaaOrd
namespace Go.Proofs.Ytmidpholmgmdpaa
open Go.RowKit

noncomputable def spB (a n : Nat) : Bool := @decide (Mr.SP a n) (Classical.propDecidable _)
theorem spB_true {a n : Nat} : spB a n = true ↔ Mr.SP a n := by unfold spB; exact @decide_eq_true_iff (Mr.SP a n) (Classical.propDecidable _)
theorem spB_yes {a n : Nat} (h : Mr.SP a n) : spB a n = true := spB_true.2 h
theorem spB_no {a n : Nat} (h : ¬ Mr.SP a n) : spB a n = false := by
  cases hb : spB a n
  · rfl
  · exact absurd (spB_true.1 hb) h

theorem two_odd_unique : ∀ s t d e : Nat, 2 ^ s * d = 2 ^ t * e → d % 2 = 1 → e % 2 = 1 → s = t ∧ d = e
  | 0, 0, d, e, h, _, _ => ⟨rfl, by simpa using h⟩
  | 0, t + 1, d, e, h, h1, _ => by
    rw [Nat.pow_zero, Nat.one_mul, Nat.pow_succ, Nat.mul_right_comm] at h
    omega
  | s + 1, 0, d, e, h, _, h2 => by
    rw [Nat.pow_zero, Nat.one_mul, Nat.pow_succ, Nat.mul_right_comm] at h
    omega
  | s + 1, t + 1, d, e, h, h1, h2 => by
    rw [Nat.pow_succ, Nat.pow_succ, Nat.mul_right_comm, Nat.mul_right_comm (2 ^ t)] at h
    obtain ⟨h3, h4⟩ := two_odd_unique s t d e (by omega) h1 h2
    exact ⟨by omega, h4⟩
theorem SP_iff {a n s d : Nat} (h : n - 1 = 2 ^ s * d) (hd : d % 2 = 1) : Mr.SP a n ↔ a ^ d % n = 1 ∨ ∃ r, r < s ∧ a ^ (2 ^ r * d) % n = n - 1 := by
  constructor
  · rintro ⟨s', d', h1, h2, h3⟩
    obtain ⟨rfl, rfl⟩ := two_odd_unique s s' d d' (h.symm.trans h1) hd h2
    exact h3
  · intro h3
    exact ⟨s, d, h, hd, h3⟩
theorem pow_dbl (a n r d : Nat) : a ^ (2 ^ r * d) % n * (a ^ (2 ^ r * d) % n) % n = a ^ (2 ^ (r + 1) * d) % n := by
  rw [← Nat.mul_mod, ← Nat.pow_two, ← Nat.pow_mul, Nat.pow_succ, Nat.mul_right_comm]

set_option maxHeartbeats 2000000 in
theorem passes_any (a n : Nat) (w : World) (ha : a ≤ 4294967295) (hn : 3 ≤ n) (hn2 : n ≤ 4294967295) (hodd : n % 2 = 1) :
    Calls Try.prog 64 #[.int .u32 a, .int .u32 n] w (RetV w (.bool (spB a n))) := by
  have h1i : ((n : Int) - 1) = ((n - 1 : Nat) : Int) := by omega
  have hmod0 : 0 ≤ (a : Int) % (n : Int) := Int.emod_nonneg _ (by omega)
  have hmod1 : (a : Int) % (n : Int) < (n : Int) := Int.emod_lt_of_pos _ (by omega)
  have hmodi : (a : Int) % (n : Int) = ((a % n : Nat) : Int) := by simp
  have HMI := Lib.hid hmodi
  clear hmodi
  go_enter Try.func64, Try.ntmps64
  go_wp2
  go_loopw [5, 6] (fun x y wr => ∃ d t : Nat, x = .int .u32 (d : Int) ∧ y = .int .i64 (t : Int) ∧ 0 < d ∧ d < n ∧ t ≤ 40 ∧ n - 1 = 2 ^ t * d ∧ wr = w) (fun x _ _ => (intOf x).toNat)
  case atStart => exact ⟨n - 1, 0, by go_num, rfl, by omega, by omega, by omega, by simp, rfl⟩
  case round =>
    obtain ⟨d, t, rfl, rfl, hd0, hdn, ht, hnd, rfl⟩ := hrel
    have htl : t < 32 := by
      rcases Nat.lt_or_ge t 32 with h | h
      · exact h
      · have h2 : 2 ^ 32 ≤ 2 ^ t := Nat.pow_le_pow_right (by omega) h
        have h3 := Nat.le_mul_of_pos_right (2 ^ t) hd0
        omega
    by_cases hev : d % 2 = 0
    · have hb : (bits BinOp.and IntKind.u32 (d : Int) 1 == 0) = true := by rw [and1_u32 d (by omega), hev]; rfl
      have HND := Lib.hid hnd
      clear hnd
      go_wp2
      go_roundw
      case rel =>
        refine ⟨d / 2, t + 1, by go_num, by go_num, by omega, by omega, by omega, ?_, trivial⟩
        rw [HND.out, Nat.pow_succ, Nat.mul_assoc]
        congr 1
        omega
      case measure => simp [intOf]; omega
    · have hb : (bits BinOp.and IntKind.u32 (d : Int) 1 == 0) = false := by rw [and1_u32 d (by omega), show d % 2 = 1 by omega]; rfl
      have hodd' : d % 2 = 1 := by omega
      have ht1 : 1 ≤ t := by
        rcases Nat.eq_zero_or_pos t with h | h
        · subst h
          rw [Nat.pow_zero, Nat.one_mul] at hnd
          omega
        · exact h
      have HI := Lib.hid (SP_iff (a := a) hnd hodd')
      clear hnd hev hodd'
      go_wp2_with fail
      rw [HMI.out]
      refine (power_p (a % n) d n _ (by have := Nat.mod_lt a (show 0 < n by omega); omega) (by omega) (by omega) hn2).mono ?_
      rintro r w1 ⟨rfl, hbel⟩
      rw [← Nat.pow_mod]
      have hx0 : a ^ d % n < n := Nat.mod_lt _ (by omega)
      obtain ⟨x, hx⟩ : ∃ x, a ^ d % n = x := ⟨_, rfl⟩
      rw [hx] at hx0 ⊢
      by_cases c1 : x = 1
      · have hr := Lib.hid (spB_yes (HI.out.2 (.inl (hx.trans c1))))
        subst c1
        clear hx
        go_wp2
        go_ret
        exact ⟨by rw [hr.out]; rfl, hbel⟩
      · have d1 : ((x : Int) == 1) = false := by simp; omega
        by_cases c2 : x = n - 1
        · have hr := Lib.hid (spB_yes (HI.out.2 (.inr ⟨0, ht1, by rw [Nat.pow_zero, Nat.one_mul, hx, c2]⟩)))
          have d2 : ((x : Int) == (n : Int) - 1) = true := by simp; omega
          clear hx
          go_wp2
          go_ret
          exact ⟨by rw [hr.out]; rfl, hbel⟩
        · have d2 : ((x : Int) == (n : Int) - 1) = false := by simp; omega
          have HX := Lib.hid (And.intro hx (And.intro c1 c2))
          clear hx c1 c2
          go_wp2
          have hti : (t : Int) - 1 = ((t - 1 : Nat) : Int) := by omega
          go_loopw [7, 34] (fun x i wr => ∃ y k : Nat, x = .int .u32 (y : Int) ∧ i = .int .i64 (k : Int) ∧ k ≤ t - 1 ∧ y = a ^ (2 ^ k * d) % n ∧ (∀ r, r ≤ k → a ^ (2 ^ r * d) % n ≠ n - 1) ∧ wr = w1) (fun _ i _ => t - (intOf i).toNat)
          case atStart =>
            obtain ⟨h1, h2, h3⟩ := HX.out
            refine ⟨x, 0, rfl, rfl, Nat.zero_le _, by rw [Nat.pow_zero, Nat.one_mul, h1], fun r hr => ?_, rfl⟩
            obtain rfl : r = 0 := by omega
            rw [Nat.pow_zero, Nat.one_mul, h1]
            exact h3
          case round =>
            obtain ⟨y, k, rfl, rfl, hk, hy, hne, rfl⟩ := hrel
            have hyn : y < n := by rw [hy]; exact Nat.mod_lt _ (by omega)
            by_cases hkt : k < t - 1
            · have hlt : decide ((k : Int) < (t : Int) - 1) = true := decide_eq_true (by omega)
              obtain ⟨m1, m2⟩ := mul_lt_int32 (x := y) (y := y) (by omega) (by omega)
              have m3 : 0 ≤ (y : Int) * (y : Int) % (n : Int) := Int.emod_nonneg _ (by omega)
              have m4 : (y : Int) * (y : Int) % (n : Int) < (n : Int) := Int.emod_lt_of_pos _ (by omega)
              obtain ⟨z, hz⟩ : ∃ z, y * y % n = z := ⟨_, rfl⟩
              have hzi : (y : Int) * (y : Int) % (n : Int) = (z : Int) := by rw [← hz]; simp
              have hz2 : z = a ^ (2 ^ (k + 1) * d) % n := by rw [← hz, hy, pow_dbl]
              have HZI := Lib.hid hzi
              by_cases hzn : z = n - 1
              · have hr := Lib.hid (spB_yes (HI.out.2 (.inr ⟨k + 1, by omega, hz2.symm.trans hzn⟩)))
                have d3 : ((y : Int) * (y : Int) % (n : Int) == (n : Int) - 1) = true := by rw [hzi]; simp; omega
                clear hy hz hzi hz2 hne
                go_wp2
                go_ret
                exact ⟨by rw [hr.out]; rfl, hbel⟩
              · have d3 : ((y : Int) * (y : Int) % (n : Int) == (n : Int) - 1) = false := by rw [hzi]; simp; omega
                have HY := Lib.hid (And.intro hz2 hne)
                clear hy hz hzi hz2 hne
                go_wp2
                go_roundw
                case rel =>
                  refine ⟨z, k + 1, by rw [HZI.out], by go_num, by omega, HY.out.1, fun r hr => ?_, trivial⟩
                  rcases Nat.lt_or_ge r (k + 1) with h | h
                  · exact HY.out.2 r (by omega)
                  · obtain rfl : r = k + 1 := by omega
                    rw [← HY.out.1]
                    exact hzn
                case measure => simp [intOf]; omega
            · have hlt : decide ((k : Int) < (t : Int) - 1) = false := decide_eq_false (by omega)
              have hr := Lib.hid (spB_no fun hs => by
                rcases HI.out.1 hs with h | ⟨r, hr, h⟩
                · exact HX.out.2.1 (HX.out.1.symm.trans h)
                · exact hne r (by omega) h)
              clear hy hne
              go_wp2
              go_ret
              exact ⟨by rw [hr.out]; rfl, hbel⟩

set_option maxHeartbeats 2000000 in
theorem rstrong_any (a n : Nat) (w : World) (ha : a ≤ 4294967295) (hn : 3 ≤ n) (hn2 : n ≤ 4294967295) (hodd : n % 2 = 1) :
    Calls Try.prog 72 #[.int .u32 a, .int .u32 n] w (RetP w (.bool (spB a n))) := by
  have hmod0 : 0 ≤ (a : Int) % (n : Int) := Int.emod_nonneg _ (by omega)
  have hmod1 : (a : Int) % (n : Int) < (n : Int) := Int.emod_lt_of_pos _ (by omega)
  have hmodi : (a : Int) % (n : Int) = ((a % n : Nat) : Int) := by simp
  have HMI := Lib.hid hmodi
  clear hmodi
  go_enter Try.func72, Try.ntmps72
  go_wp2
  go_loopw [5] (fun x wr => ∃ d t : Nat, x = .int .u32 (d : Int) ∧ 0 < d ∧ d < n ∧ n - 1 = 2 ^ t * d ∧ wr = w) (fun x _ => (intOf x).toNat)
  case atStart => exact ⟨n - 1, 0, by go_num, by omega, by omega, by simp, rfl⟩
  case round =>
    obtain ⟨d, t, rfl, hd0, hdn, hnd, rfl⟩ := hrel
    by_cases hev : d % 2 = 0
    · have hb : ((d : Int) % 2 == 0) = true := by simp; omega
      have HND := Lib.hid hnd
      clear hnd
      go_wp2
      go_roundw
      case rel =>
        refine ⟨d / 2, t + 1, by go_num, by omega, by omega, ?_, trivial⟩
        rw [HND.out, Nat.pow_succ, Nat.mul_assoc]
        congr 1
        omega
      case measure => simp [intOf]; omega
    · have hb : ((d : Int) % 2 == 0) = false := by simp; omega
      have hodd' : d % 2 = 1 := by omega
      have HI := Lib.hid (SP_iff (a := a) hnd hodd')
      have HND := Lib.hid hnd
      clear hnd hev hodd'
      go_wp2_with fail
      rw [HMI.out]
      refine (rpower_any (a % n) d n _ (by have := Nat.mod_lt a (show 0 < n by omega); omega) (by omega) (by omega) hn2).mono ?_
      rintro r w1 ⟨rfl, rfl⟩
      rw [← Nat.pow_mod]
      have hx0 : a ^ d % n < n := Nat.mod_lt _ (by omega)
      obtain ⟨x, hx⟩ : ∃ x, a ^ d % n = x := ⟨_, rfl⟩
      rw [hx] at hx0 ⊢
      by_cases c1 : x = 1
      · have hr := Lib.hid (spB_yes (HI.out.2 (.inl (hx.trans c1))))
        subst c1
        clear hx
        go_wp2
        go_ret
        exact ⟨by rw [hr.out]; rfl, rfl⟩
      · have d1 : ((x : Int) == 1) = false := by simp; omega
        have HX := Lib.hid (And.intro hx c1)
        clear hx c1
        go_wp2
        go_loopw [5, 6] (fun e x v => ∃ y k : Nat, x = .int .u32 (y : Int) ∧ e = .int .u32 ((2 ^ k * d : Nat) : Int) ∧ k ≤ t ∧ y = a ^ (2 ^ k * d) % n ∧ (∀ r, r < k → a ^ (2 ^ r * d) % n ≠ n - 1) ∧ v = wr) (fun e _ _ => n - (intOf e).toNat)
        case atStart =>
          refine ⟨x, 0, rfl, by rw [Nat.pow_zero, Nat.one_mul], Nat.zero_le _, by rw [Nat.pow_zero, Nat.one_mul, HX.out.1], fun r hr => absurd hr (Nat.not_lt_zero r), rfl⟩
        case round =>
          obtain ⟨y, k, rfl, rfl, hk, hy, hne, rfl⟩ := hrel
          have hyn : y < n := by rw [hy]; exact Nat.mod_lt _ (by omega)
          by_cases hkt : k < t
          · have hE : 2 ^ k * d * 2 ≤ n - 1 ∧ 0 < 2 ^ k * d := by
              have h3 : 0 < 2 ^ k * d := Nat.mul_pos (Nat.two_pow_pos k) hd0
              have h2 : 2 ^ (k + 1) * d ≤ 2 ^ t * d := Nat.mul_le_mul_right d (Nat.pow_le_pow_right (by omega) hkt)
              have h4 := HND.out
              rw [Nat.pow_succ, Nat.mul_right_comm] at h2
              omega
            have hE3 : 2 ^ (k + 1) * d = 2 ^ k * d * 2 := by rw [Nat.pow_succ, Nat.mul_right_comm]
            by_cases hzn : y = n - 1
            · have hr := Lib.hid (spB_yes (HI.out.2 (.inr ⟨k, hkt, hy.symm.trans hzn⟩)))
              have d3 : ((y : Int) == (n : Int) - 1) = true := by simp; omega
              obtain ⟨E, hE2⟩ : ∃ E, 2 ^ k * d = E := ⟨_, rfl⟩
              rw [hE2] at hE
              rw [hE2]
              have hlt : decide ((E : Int) < (n : Int) - 1) = true := decide_eq_true (by omega)
              clear hy hne hE2 hE3
              go_wp2
              go_ret
              exact ⟨by rw [hr.out]; rfl, rfl⟩
            · have d3 : ((y : Int) == (n : Int) - 1) = false := by simp; omega
              obtain ⟨z, hz⟩ : ∃ z, y * y % n = z := ⟨_, rfl⟩
              have hz2 : z = a ^ (2 ^ (k + 1) * d) % n := by rw [← hz, hy, pow_dbl]
              have HY := Lib.hid (And.intro hz2 (And.intro hne hy))
              obtain ⟨E, hE2⟩ : ∃ E, 2 ^ k * d = E := ⟨_, rfl⟩
              rw [hE2] at hE hE3
              rw [hE2]
              have hlt : decide ((E : Int) < (n : Int) - 1) = true := decide_eq_true (by omega)
              have HE := Lib.hid hE3
              clear hy hz2 hne hE2 hE3
              go_wp2_with fail
              refine (rtimes_any y y n _ (by omega) (by omega) (by omega) hn2).mono ?_
              rintro r w3 ⟨rfl, rfl⟩
              rw [hz]
              go_wp2
              go_roundw
              case rel =>
                refine ⟨z, k + 1, rfl, by rw [HE.out]; go_num, by omega, HY.out.1, fun r hr => ?_, trivial⟩
                rcases Nat.lt_or_ge r k with h | h
                · exact HY.out.2.1 r h
                · obtain rfl : r = k := by omega
                  rw [← HY.out.2.2]
                  exact hzn
              case measure => simp [intOf]; omega
          · obtain rfl : k = t := by omega
            have hr := Lib.hid (spB_no fun hs => by
              rcases HI.out.1 hs with h | ⟨r, hr, h⟩
              · exact HX.out.2 (HX.out.1.symm.trans h)
              · exact hne r hr h)
            have hEE := HND.out
            rw [← hEE]
            have hlt : decide (((n - 1 : Nat) : Int) < (n : Int) - 1) = false := decide_eq_false (by omega)
            clear hy hne hEE
            go_wp2
            go_ret
            exact ⟨by rw [hr.out]; rfl, rfl⟩
end Go.Proofs.Ytmidpholmgmdpaa
