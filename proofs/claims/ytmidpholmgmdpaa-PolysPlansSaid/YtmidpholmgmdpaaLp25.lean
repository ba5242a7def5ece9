/- The contracts of the reference's Least and Products of layer 25. -/
import Derived.Test.YtmidpholmgmdpaaPk25
namespace Go.Proofs.Ytmidpholmgmdpaa
open Go.RowKit
set_option linter.unusedVariables false

theorem rleast25_any (m : Nat) (w : World) (hm : m ≤ 256) :
    Calls Try.prog 19 #[.int .i64 ((m - 1 : Nat) : Int)] w (RetP w (.int .i64 ((kk m : Nat) : Int))) := by
  obtain ⟨k1, k2, k3⟩ := kk_law hm
  have HLT : Hid (∀ k, k ≤ kk m → 2 ^ k < m - 1 → k + 1 ≤ kk m) := Lib.hid fun k hk h => by
    rcases Nat.lt_or_ge k (kk m) with h1 | h1
    · exact h1
    · obtain rfl : k = kk m := by omega
      omega
  have HGE : Hid (∀ k, k ≤ kk m → ¬ 2 ^ k < m - 1 → k = kk m) := Lib.hid fun k hk h => by
    rcases Nat.lt_or_ge k (kk m) with h1 | h1
    · have := Nat.pow_le_pow_right (show 0 < 2 by omega) (show k ≤ kk m - 1 by omega)
      omega
    · omega
  have HP : Hid (∀ k, k ≤ kk m → 2 ^ k ≤ 256) := Lib.hid fun k hk => Nat.pow_le_pow_right (show 0 < 2 by omega) (show k ≤ 8 by omega)
  obtain ⟨K, hK⟩ : ∃ K, kk m = K := ⟨_, rfl⟩
  obtain ⟨d, hd⟩ : ∃ d, m - 1 = d := ⟨_, rfl⟩
  have hd2 : d ≤ 255 := by omega
  rw [hK] at HLT HGE HP k3 ⊢
  rw [hd] at HLT HGE ⊢
  clear k1 k2 hK hd
  go_enter Try.func19, Try.ntmps19
  go_wp2
  go_loopw [3, 4] (fun X Y w' => ∃ k : Nat, X = .int .i64 (k : Int) ∧ Y = .int .i64 ((2 ^ k : Nat) : Int) ∧ k ≤ K ∧ w' = w) (fun X _ _ => K - (intOf X).toNat)
  case atStart => exact ⟨0, rfl, rfl, Nat.zero_le _, rfl⟩
  case round =>
    obtain ⟨k, rfl, rfl, hk, rfl⟩ := hrel
    have h1 := HP.out k hk
    have h2 := Nat.pow_succ 2 k
    by_cases hc : 2 ^ k < d
    · have h3 := HLT.out k hk hc
      obtain ⟨P, hP⟩ : ∃ P, 2 ^ k = P := ⟨_, rfl⟩
      rw [hP] at h1 h2 hc ⊢
      have e1 : decide ((P : Int) < (d : Int)) = true := decide_eq_true (by omega)
      have HP2 : Hid (((2 ^ (k + 1) : Nat) : Int) = 2 * (P : Int)) := Lib.hid (by rw [h2]; omega)
      clear hP h2
      go_wp2
      go_roundw
      case rel => exact ⟨k + 1, by go_num, by rw [HP2.out], h3, by trivial⟩
      case measure => simp only [intOf]; omega
    · have h3 := HGE.out k hk hc
      subst h3
      obtain ⟨P, hP⟩ : ∃ P, 2 ^ k = P := ⟨_, rfl⟩
      rw [hP] at h1 hc ⊢
      have e1 : decide ((P : Int) < (d : Int)) = false := decide_eq_false (by omega)
      clear hP h2
      go_wp2
      go_ret
      exact ⟨rfl, rfl⟩
/-- how many products a plan of m coefficients may have -/
def prodB (m : Nat) : Int := if m - 1 < 1 then 0 else ((2 ^ ((kk m + 1) / 2) : Nat) : Int) + (kk m : Int) - (((kk m + 1) / 2 : Nat) : Int) + (((m - 1 + 2 ^ ((kk m + 1) / 2) - 1) / 2 ^ ((kk m + 1) / 2) : Nat) : Int) - 2
theorem rproducts25_any (m : Nat) (w : World) (hm : m ≤ 256) :
    Calls Try.prog 20 #[.int .i64 ((m - 1 : Nat) : Int)] w (RetP w (.int .i64 (prodB m))) := by
  obtain ⟨k1, k2, k3⟩ := kk_law hm
  have HC := Lib.hid (rleast25_any m w hm)
  by_cases hd1 : m - 1 < 1
  · have HV : Hid (prodB m = 0) := Lib.hid (by unfold prodB; rw [if_pos hd1])
    obtain ⟨d, hd⟩ : ∃ d, m - 1 = d := ⟨_, rfl⟩
    rw [hd] at hd1 HC ⊢
    have e1 : decide ((d : Int) < 1) = true := decide_eq_true (by omega)
    clear hd k1 k2
    go_enter Try.func20, Try.ntmps20
    go_wp2
    go_ret
    exact ⟨by rw [HV.out]; rfl, rfl⟩
  have HV : Hid (prodB m = ((2 ^ ((kk m + 1) / 2) : Nat) : Int) + (kk m : Int) - (((kk m + 1) / 2 : Nat) : Int) + (((m - 1 + 2 ^ ((kk m + 1) / 2) - 1) / 2 ^ ((kk m + 1) / 2) : Nat) : Int) - 2) := Lib.hid (by unfold prodB; rw [if_neg hd1])
  obtain ⟨V, hV⟩ : ∃ V, prodB m = V := ⟨_, rfl⟩
  rw [hV] at HV ⊢
  clear hV
  obtain ⟨K, hK⟩ : ∃ K, kk m = K := ⟨_, rfl⟩
  obtain ⟨d, hd⟩ : ∃ d, m - 1 = d := ⟨_, rfl⟩
  have hd2 : d ≤ 255 := by omega
  rw [hK] at HC HV k3
  rw [hd] at HC HV hd1 ⊢
  clear k1 k2 hK hd
  obtain ⟨b, hb⟩ : ∃ b, (K + 1) / 2 = b := ⟨_, rfl⟩
  rw [hb] at HV
  have hb4 : b ≤ 4 := by omega
  have HP : Hid (∀ k, k ≤ b → 2 ^ k ≤ 16) := Lib.hid fun k hk => Nat.pow_le_pow_right (show 0 < 2 by omega) (show k ≤ 4 by omega)
  have HP0 : Hid (∀ k, 1 ≤ 2 ^ k) := Lib.hid fun k => Nat.one_le_two_pow
  have HPS : Hid (∀ k, 2 ^ (k + 1) = 2 ^ k * 2) := Lib.hid fun k => Nat.pow_succ 2 k
  have e1 : decide ((d : Int) < 1) = false := decide_eq_false (by omega)
  have hq : ((K : Int) + 1) / 2 = (b : Int) := by omega
  have hq2 : ((K : Int) + 1).tdiv 2 = (b : Int) := by rw [Int.tdiv_eq_ediv_of_nonneg (by omega)]; exact hq
  go_enter Try.func20, Try.ntmps20
  go_wp2_with (go_at_call 19; refine HC.out.mono ?_; rintro e w' ⟨rfl, hw⟩; subst hw)
  go_loopw [5, 6] (fun X Y w' => ∃ k : Nat, X = .int .i64 ((2 ^ k : Nat) : Int) ∧ Y = .int .i64 (k : Int) ∧ k ≤ b ∧ w' = w) (fun _ Y _ => b - (intOf Y).toNat)
  case atStart => exact ⟨0, rfl, rfl, Nat.zero_le _, by trivial⟩
  case round =>
    obtain ⟨k, rfl, rfl, hk, rfl⟩ := hrel
    have h1 := HP.out k hk
    have h2 := HPS.out k
    have h0 := HP0.out k
    by_cases hc : k < b
    · obtain ⟨P, hP⟩ : ∃ P, 2 ^ k = P := ⟨_, rfl⟩
      rw [hP] at h0 h1 h2 ⊢
      have e2 : decide ((k : Int) < (b : Int)) = true := decide_eq_true (by omega)
      have HP2 : Hid (((2 ^ (k + 1) : Nat) : Int) = 2 * (P : Int)) := Lib.hid (by rw [h2]; omega)
      clear hP h2
      go_wp2
      go_roundw
      case rel => exact ⟨k + 1, by rw [HP2.out], by go_num, hc, by trivial⟩
      case measure => simp only [intOf]; omega
    · obtain rfl : k = b := by omega
      obtain ⟨P, hP⟩ : ∃ P, 2 ^ k = P := ⟨_, rfl⟩
      rw [hP] at h0 h1 HV ⊢
      have e2 : decide ((k : Int) < (k : Int)) = false := decide_eq_false (by omega)
      obtain ⟨Q, hQ⟩ : ∃ Q, (d + P - 1) / P = Q := ⟨_, rfl⟩
      rw [hQ] at HV
      have hn : ((d + P - 1 : Nat) : Int) = (d : Int) + (P : Int) - 1 := by omega
      have hq3 : ((d : Int) + (P : Int) - 1).tdiv (P : Int) = (Q : Int) := by rw [← hn, Int.tdiv_eq_ediv_of_nonneg (by omega), ← hQ]; rfl
      have hQ2 : Q ≤ d + P := by rw [← hQ]; exact Nat.le_trans (Nat.div_le_self _ _) (by omega)
      have hP0 : ¬ (P : Int) = 0 := by omega
      have hP1 : ¬ P = 0 := by omega
      clear hP hQ h2
      go_wp2
      go_ret
      exact ⟨by rw [HV.out]; rfl, rfl⟩
end Go.Proofs.Ytmidpholmgmdpaa
