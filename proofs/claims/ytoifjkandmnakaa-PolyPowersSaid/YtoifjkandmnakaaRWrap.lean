/- The contract of the reference's Wrap. -/
import Derived.Test.YtoifjkandmnakaaWrap
namespace Go.Proofs.Ytoifjkandmnakaa
open Go.RowKit

/-- the first t elements that come to place j -/
def rS (m N : Nat) (a : Nat → Nat) (j t : Nat) : Nat := sumN (fun k => wTerm m N a (j + k * N)) t

theorem wS_rS {m N j : Nat} {a : Nat → Nat} (hj : j < N) : ∀ i t, (t = 0 ∨ j + (t - 1) * N < i) → i ≤ j + t * N → wS m N a i j = rS m N a j t
  | 0, t, h1, _ => by
    obtain rfl : t = 0 := by omega
    rfl
  | i + 1, t, h1, h2 => by
    by_cases h : i % N = j
    · rw [wS_hit h]
      -- i is j + q N, and so t = q + 1
      have hi := Nat.div_add_mod i N
      rw [h] at hi
      obtain ⟨q, hq⟩ : ∃ q, i / N = q := ⟨_, rfl⟩
      rw [hq] at hi
      have hi2 : i = j + q * N := by rw [Nat.mul_comm q N]; omega
      have ht : t = q + 1 := by
        rcases Nat.lt_trichotomy t (q + 1) with h3 | h3 | h3
        · exfalso
          have := Nat.mul_le_mul_right N (show t ≤ q by omega)
          omega
        · exact h3
        · exfalso
          have h4 := Nat.mul_le_mul_right N (show q + 1 ≤ t - 1 by omega)
          rw [Nat.add_mul, Nat.one_mul] at h4
          omega
      subst ht
      rw [wS_rS hj i q (by
        rcases Nat.eq_zero_or_pos q with h3 | h3
        · exact .inl h3
        · right
          obtain ⟨p, rfl⟩ : ∃ p, q = p + 1 := ⟨q - 1, by omega⟩
          rw [Nat.add_mul, Nat.one_mul] at hi2
          rw [Nat.add_sub_cancel]
          omega) (by omega), hi2]
      rfl
    · rw [wS_miss h]
      refine wS_rS hj i t ?_ ?_
      · rcases h1 with h1 | h1
        · exact .inl h1
        · rcases Nat.eq_zero_or_pos t with h3 | h3
          · exact .inl h3
          · right
            rcases Nat.lt_or_ge (j + (t - 1) * N) i with h4 | h4
            · exact h4
            · exfalso
              have h5 : i = j + (t - 1) * N := by omega
              apply h
              rw [h5, Nat.add_mul_mod_self_right, Nat.mod_eq_of_lt hj]
      · rcases Nat.lt_or_ge i (j + t * N) with h4 | h4
        · omega
        · exfalso
          have h5 : i + 1 = j + t * N ∨ i + 1 < j + t * N := by omega
          omega

theorem wTerm_at {m N j k : Nat} {a : Nat → Nat} (hj : j < N) : wTerm m N a (j + k * N) = if k % 2 = 1 then m - a (j + k * N) else a (j + k * N) := by
  unfold wTerm
  rw [Nat.add_mul_div_right _ _ (by omega), Nat.div_eq_of_lt hj, Nat.zero_add]
theorem rS_le {m N j : Nat} {a : Nat → Nat} (hj : j < N) (ha : ∀ i, a i < m) : ∀ t, rS m N a j t ≤ t * m
  | 0 => Nat.zero_le _
  | t + 1 => by
    have h := rS_le (a := a) hj ha t
    have h2 : wTerm m N a (j + t * N) ≤ m := by
      rw [wTerm_at hj]
      split
      · omega
      · exact Nat.le_of_lt (ha _)
    unfold rS at h ⊢
    rw [sumN, Nat.add_mul, Nat.one_mul]
    omega

def WrIn (m n N j : Nat) (a : Nat → Nat) (s k : Value) : Prop := ∃ t : Nat, k = .int .i64 t ∧ s = .int .u64 ((rS m N a j t : Nat) : Int) ∧ (t = 0 ∨ j + (t - 1) * N < n)

theorem mul_small {t N n j : Nat} (h : t = 0 ∨ j + (t - 1) * N < n) (hN : 1 ≤ N) : t * N ≤ n + N ∧ t ≤ n + N := by
  rcases Nat.eq_zero_or_pos t with h0 | h0
  · subst h0
    simp
  · obtain ⟨p, rfl⟩ : ∃ p, t = p + 1 := ⟨t - 1, by omega⟩
    rcases h with h | h
    · omega
    · rw [Nat.add_sub_cancel] at h
      rw [Nat.add_mul, Nat.one_mul]
      have := Nat.mul_le_mul_left p hN
      omega

set_option maxHeartbeats 2000000 in
theorem rwrap_any (m n c : Nat) (k : Int) (A : Option Addr) (a : Nat → Nat) (w : World) (lo hi : Nat) (ha : Sq .u32 w lo hi A n a) (hn : n ≤ 9223372036854775807) (hhi : hi ≤ w.heap.size) :
    Calls Try.prog 36 #[.int .u32 m, .slice A n c, .int .i64 k] w (RetWr w m n a k) := by
  have HV := Lib.hid (check_any m n c A a w lo hi ha hn)
  by_cases hc : chk m n a = 0
  · rw [hc] at HV
    obtain ⟨m1, m2, n1, _, _⟩ := chk_zero hc
    have HAA := Lib.hid (vals_lt hc ha.1)
    have HA := Lib.hid ha
    clear ha
    by_cases hk : k < 1 ∨ 256 < k
    · have hE : wrE m n a k = 2 := by unfold wrE; rw [if_pos hc, if_pos hk]
      have HE := Lib.hid hE
      clear hc hE
      rcases hk with hk | hk
      all_goals
        go_enter Try.func36, Try.ntmps36
        go_wp2_with fail
        refine HV.out.mono ?_
        rintro e w1 ⟨rfl, hbel1⟩
        go_wp2
        go_ret2
        exact retWr_err HE.out (by decide) hbel1
    · have hE : wrE m n a k = 0 := by unfold wrE; rw [if_pos hc, if_neg hk]
      have HE := Lib.hid hE
      obtain ⟨N, rfl⟩ := Int.eq_ofNat_of_zero_le (show 0 ≤ k by omega)
      have hN1 : 1 ≤ N := by omega
      have hN2 : N ≤ 256 := by omega
      have hd1 : decide ((N : Int) < 1) = false := decide_eq_false (by omega)
      have hd2 : decide ((N : Int) > 256) = false := decide_eq_false (by omega)
      clear hc hE hk
      go_enter Try.func36, Try.ntmps36
      go_wp2_with fail
      refine HV.out.mono ?_
      rintro e w1 ⟨rfl, hbel1⟩
      have hz1 := hbel1.size
      have HA1 := Lib.hid (HA.out.below hbel1 hhi)
      go_wp2
      clear hd1 hd2
      go_loopw [9, 10] (fun o i wr => ∃ (j : Nat) (A' : Option Addr) (c' : Nat), j ≤ N ∧ i = .int .i64 j ∧ o = .slice A' j c' ∧ Own .u32 wr w1.heap.size 22 A' j c' (cutF j (wrapF m n a N)) ∧ Below w1.heap.size w1 wr) (fun _ i _ => N - (intOf i).toNat)
      case atStart => exact ⟨0, none, 0, Nat.zero_le _, rfl, rfl, Own.congr (Own.nil _ _ _ _) (fun j => (cutF_out (Nat.zero_le _)).symm), Below.refl _ _⟩
      case round =>
        obtain ⟨j, A', c', hj, rfl, rfl, hown, hbel⟩ := hrel
        have HO1 := Lib.hid hown
        clear hown
        by_cases hjN : j < N
        · have hdec : decide ((j : Int) < (N : Int)) = true := decide_eq_true (by omega)
          go_wp2
          clear hdec
          go_loop [11, 12] (WrIn m n N j a) (fun _ k => n + N - (intOf k).toNat)
          case atStart => exact ⟨0, rfl, rfl, .inl rfl⟩
          case round =>
            obtain ⟨t, rfl, rfl, hst⟩ := hrel
            obtain ⟨hq1, hq2⟩ := mul_small hst hN1
            have hq3 : (t : Int) * (N : Int) = ((t * N : Nat) : Int) := by simp
            have hq4 : 0 ≤ (t : Int) * (N : Int) := by omega
            have hq5 : (t : Int) * (N : Int) ≤ 512 := by omega
            have hsl := rS_le (a := a) (m := m) hjN HAA.out t
            have hsl2 : t * m ≤ 512 * 2147483647 := Nat.mul_le_mul (by omega) (by omega)
            obtain ⟨s, hs⟩ : ∃ s, rS m N a j t = s := ⟨_, rfl⟩
            rw [hs] at hsl
            rw [hs]
            have hsb : s ≤ 1099511627264 := by omega
            clear hsl hsl2
            by_cases hin : j + t * N < n
            · have HT := Lib.hid (at_any A n c a ((j : Int) + (t : Int) * (N : Int)) wr lo hi (HA1.out.below hbel (by omega)) (by omega) (by omega) (fun j => by have := HAA.out j; omega))
              rw [show ((j : Int) + (t : Int) * (N : Int)).toNat = j + t * N from by omega] at HT
              have hxm := HAA.out (j + t * N)
              obtain ⟨x, hx⟩ : ∃ x, a (j + t * N) = x := ⟨_, rfl⟩
              rw [hx] at HT hxm
              have hin2 : (j : Int) + (t : Int) * (N : Int) < (n : Int) := by omega
              have hstep : rS m N a j (t + 1) = s + (if t % 2 = 1 then m - x else x) := by
                rw [← hs, ← hx, ← wTerm_at hjN]
                rfl
              have HST := Lib.hid hstep
              have HIN := Lib.hid hin
              clear hs hx hstep hq3 hst
              by_cases hp : t % 2 = 1
              · have hpb : ((t : Int) % 2 == 0) = false := by simp; omega
                rw [if_pos hp] at HST
                clear hp
                go_wp2_with (go_at_call 53; refine HT.out.mono ?_; rintro e w' ⟨rfl, rfl⟩)
                go_round
                case rel =>
                  refine ⟨t + 1, by go_num, ?_, .inr (by rw [Nat.add_sub_cancel]; exact HIN.out)⟩
                  rw [HST.out, Int.natCast_add, Int.ofNat_sub (Nat.le_of_lt hxm)]
                  exact congrArg _ (by omega)
                case measure =>
                  have hin := HIN.out
                  have htt := Nat.mul_le_mul_left t hN1
                  simp [intOf]
                  omega
              · have hpb : ((t : Int) % 2 == 0) = true := by simp; omega
                rw [if_neg hp] at HST
                clear hp
                go_wp2_with (go_at_call 53; refine HT.out.mono ?_; rintro e w' ⟨rfl, rfl⟩)
                go_round
                case rel => exact ⟨t + 1, by go_num, by rw [HST.out]; simp, .inr (by rw [Nat.add_sub_cancel]; exact HIN.out)⟩
                case measure =>
                  have hin := HIN.out
                  have htt := Nat.mul_le_mul_left t hN1
                  simp [intOf]
                  omega
            · have hin2 : (n : Int) ≤ (j : Int) + (t : Int) * (N : Int) := by omega
              have hF : wrapF m n a N j = s % m := by
                unfold wrapF
                rw [if_pos hjN, wS_rS hjN n t hst (by omega), hs]
              have hV : Value.int .u32 ((s : Int) % (m : Int)) = .int .u32 ((wrapF m n a N j : Nat) : Int) := by rw [hF, Int.natCast_emod]
              have HV2 := Lib.hid hV
              have hsz := hbel.size
              have hd1 : 0 ≤ (s : Int) % (m : Int) := Int.emod_nonneg _ (by omega)
              have hd2 : (s : Int) % (m : Int) < (m : Int) := Int.emod_lt_of_pos _ (by omega)
              clear hs hq3 hst hF hV hin
              go_wp2_with (at_builtin; refine wpl_append rfl _ _ _ rfl e32 rfl (HO1.out.alloc _) rfl (sq_one (x := wrapF m n a N j) (lo := 0) (hi := wr.heap.size + 1) HV2.out (Nat.zero_le _) (Nat.lt_succ_self _)) (cutF (j + 1) (wrapF m n a N)) (fun i hi => cutF_lt hi) cutF_add (by unfold maxLen; omega) (by omega) (by simp; omega) ?_; intro A2 c2 w2 hown2 hg2 hb2 hat2)
              go_roundw
              case rel => exact ⟨j + 1, A2, c2, by omega, by go_num, rfl, hown2, (hbel.alloc hsz _).trans hb2⟩
              case measure => simp [intOf]; omega
        · obtain rfl : j = N := by omega
          have hcut : cutF j (wrapF m n a j) = wrapF m n a j := funext (cutF_all fun i hi => by unfold wrapF; rw [if_neg (by omega)])
          have hown := HO1.out
          rw [hcut] at hown
          have HOW := Lib.hid hown
          clear hown hcut
          go_wp2
          go_ret2
          exact retWr_ok HE.out HOW.out.le (HOW.out.sq hz1) (hbel1.trans (hbel.mono hz1))
  · obtain ⟨y, hy⟩ : ∃ y, chk m n a = y := ⟨_, rfl⟩
    have hE : wrE m n a k = y := by unfold wrE; rw [if_neg hc, hy]
    rw [hy] at HV hc
    have hyz : ((y : Int) != 0) = true := by simp; omega
    have HE := Lib.hid hE
    clear hy ha hE
    go_enter Try.func36, Try.ntmps36
    go_wp2_with fail
    refine HV.out.mono ?_
    rintro e w1 ⟨rfl, hbel1⟩
    go_wp2
    go_ret2
    exact retWr_err HE.out hc hbel1
end Go.Proofs.Ytoifjkandmnakaa
