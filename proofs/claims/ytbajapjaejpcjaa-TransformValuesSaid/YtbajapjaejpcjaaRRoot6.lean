/- The contracts of the reference's power, Root and New of layer 6. -/
import Derived.Test.YtbajapjaejpcjaaNew6
namespace Go.Proofs.Ytbajapjaejpcjaa
open Go.RowKit
set_option linter.unusedVariables false

def Pw6 (e q X : Nat) (A E O : Value) : Prop := ∃ a' e' o : Nat, A = .int .u64 (a' : Int) ∧ E = .int .u64 (e' : Int) ∧ O = .int .u64 (o : Int) ∧ a' ≤ 4294967295 ∧ e' ≤ e ∧ o < q ∧ o * a' ^ e' % q = X

set_option maxHeartbeats 1000000 in
theorem rpow6_any (a e q : Nat) (w : World) (ha : a ≤ 4294967295) (he : e < 18446744073709551616) (hq : 2 ≤ q) (hq2 : q ≤ 2147483647) :
    Calls Try.prog 31 #[.int .u64 a, .int .u64 e, .int .u64 q] w (RetP w (.int .u64 ((a ^ e % q : Nat) : Int))) := by
  obtain ⟨X, hX⟩ : ∃ X, a ^ e % q = X := ⟨_, rfl⟩
  rw [hX]
  have HXX := Lib.hid hX
  clear hX
  have h1q : (1 : Int) % (q : Int) = 1 := Int.emod_eq_of_lt (by omega) (by omega)
  have h1qt : (1 : Int).tmod (q : Int) = 1 := by rw [Int.tmod_eq_emod_of_nonneg (by omega), h1q]
  have hq0 : ¬ q = 0 := by omega
  go_enter Try.func31, Try.ntmps31
  go_wp2
  clear h1q h1qt
  go_loop [0, 1, 7] (Pw6 e q X) (fun _ y _ => (intOf y).toNat)
  case atStart => exact ⟨a, e, 1, rfl, rfl, rfl, ha, Nat.le_refl _, by omega, by rw [Nat.one_mul]; exact HXX.out⟩
  case round =>
    obtain ⟨a', e', o, rfl, rfl, rfl, ha', he', ho, hr⟩ := hrel
    by_cases h0 : e' = 0
    · subst h0
      rw [Nat.pow_zero, Nat.mul_one, Nat.mod_eq_of_lt ho] at hr
      have HR := Lib.hid hr
      clear hr
      go_wp2
      go_ret
      exact ⟨by rw [← HR.out]; rfl, rfl⟩
    · have hgt : decide ((e' : Int) > 0) = true := decide_eq_true (by omega)
      have HS := Lib.hid (pwr_step hr)
      have hpp : ∀ x y : Nat, x ≤ 4294967295 → y ≤ 4294967295 → x * y ≤ 18446744065119617025 := fun x y h1 h2 => Nat.mul_le_mul h1 h2
      obtain ⟨m1, hm1⟩ : ∃ m, o * a' = m := ⟨_, rfl⟩
      have hm1i : (o : Int) * (a' : Int) = (m1 : Int) := by rw [← hm1]; simp
      have hm1b : m1 ≤ 18446744065119617025 := by rw [← hm1]; exact hpp _ _ (by omega) ha'
      obtain ⟨r1, hr1⟩ : ∃ r, m1 % q = r := ⟨_, rfl⟩
      have hr1i : (m1 : Int) % (q : Int) = (r1 : Int) := by rw [← hr1]; simp
      have hr1t : (m1 : Int).tmod (q : Int) = (r1 : Int) := by rw [Int.tmod_eq_emod_of_nonneg (by omega), hr1i]
      have hr1q : r1 < q := by rw [← hr1]; exact Nat.mod_lt _ (by omega)
      obtain ⟨m2, hm2⟩ : ∃ m, a' * a' = m := ⟨_, rfl⟩
      have hm2i : (a' : Int) * (a' : Int) = (m2 : Int) := by rw [← hm2]; simp
      have hm2b : m2 ≤ 18446744065119617025 := by rw [← hm2]; exact hpp _ _ ha' ha'
      obtain ⟨r2, hr2⟩ : ∃ r, m2 % q = r := ⟨_, rfl⟩
      have hr2i : (m2 : Int) % (q : Int) = (r2 : Int) := by rw [← hr2]; simp
      have hr2t : (m2 : Int).tmod (q : Int) = (r2 : Int) := by rw [Int.tmod_eq_emod_of_nonneg (by omega), hr2i]
      have hr2q : r2 < q := by rw [← hr2]; exact Nat.mod_lt _ (by omega)
      rw [hm1, hm2, hr1, hr2] at HS
      clear hr hpp hm1 hm2 hr1 hr2
      by_cases hod : e' % 2 = 1
      · have hodi : ((e' : Int) % 2 == 1) = true := by simp; omega
        rw [if_pos hod] at HS
        clear hod
        go_wp2
        go_round
        case rel => exact ⟨r2, e' / 2, r1, rfl, by go_num, rfl, by omega, by omega, hr1q, HS.out⟩
        case measure => simp [intOf]; omega
      · have hodi : ((e' : Int) % 2 == 1) = false := by simp; omega
        rw [if_neg hod] at HS
        clear hod
        go_wp2
        go_round
        case rel => exact ⟨r2, e' / 2, o, rfl, by go_num, rfl, by omega, by omega, ho, HS.out⟩
        case measure => simp [intOf]; omega

/-! ### powers of two: an element whose power n is -1 has the order 2 n -/
theorem pr_two_pow {p : Nat} (hp : Mr.Pr p) : ∀ j, p ∣ 2 ^ j → p = 2
  | 0, h => by
    have := Nat.le_of_dvd (by omega) h
    have := hp.1
    rw [Nat.pow_zero] at *
    omega
  | j + 1, h => by
    rw [Nat.pow_succ] at h
    rcases hp.dvd_mul h with h1 | h1
    · exact pr_two_pow hp j h1
    · have := Nat.le_of_dvd (by omega) h1
      have := hp.1
      omega
theorem ord_of_neg {p x n j : Nat} (hp : Mr.Pr p) (hp3 : 3 ≤ p) (hn : n = 2 ^ j) (h : x ^ n % p = p - 1) : Ordr p x (2 * n) := by
  have hc : Cg p ((x : Int) ^ n) (-1) := by
    have h1 : Cg p (((x ^ n : Nat) : Int)) ((p - 1 : Nat) : Int) := Cg.nat.2 (by rw [h, Nat.mod_eq_of_lt (by omega)])
    rw [Int.natCast_pow] at h1
    refine h1.trans ⟨1, ?_⟩
    rw [Int.ofNat_sub (by omega)]
    omega
  have hn0 : 0 < n := by rw [hn]; exact Nat.two_pow_pos j
  refine ordr_of (by omega) (U_cg.2 ?_) fun q hq hd hu => ?_
  · rw [Nat.mul_comm, Int.pow_mul]
    have := hc.pow 2
    simpa using this
  · have hq2 : q = 2 := pr_two_pow hq (j + 1) (by rw [Nat.pow_succ, ← hn, Nat.mul_comm]; exact hd)
    subst hq2
    rw [Nat.mul_div_cancel_left _ (by omega)] at hu
    have h1 := (U_cg.1 hu).symm.trans hc
    have h2 : (p : Int) ∣ 2 := by simpa [Cg] using h1
    have := Int.le_of_dvd (by omega) h2
    omega
theorem neg_of_ord {p x n : Nat} (hp : Mr.Pr p) (hn : 0 < n) (h : Ordr p x (2 * n)) : x ^ n % p = p - 1 := by
  have h1 := (Rt.mk hp hn h).neg
  have hp2 := hp.1
  refine Cg.mod_of ?_ (by omega)
  rw [Int.natCast_pow, Int.ofNat_sub (by omega)]
  refine h1.trans ⟨-1, by omega⟩
theorem odd_gcd {k n j : Nat} (hn : n = 2 ^ j) (hk : k % 2 = 1) : Nat.gcd k (2 * n) = 1 := by
  have h1 : Nat.Coprime k 2 := by
    unfold Nat.Coprime
    rw [Nat.gcd_comm, Nat.gcd_rec, hk]
    rfl
  have := Nat.Coprime.pow_right (j + 1) h1
  rw [show 2 * n = 2 ^ (j + 1) by rw [hn, Nat.pow_succ, Nat.mul_comm]]
  exact this
theorem gcd_odd {k n : Nat} (h : Nat.gcd k (2 * n) = 1) : k % 2 = 1 := by
  rcases Nat.mod_two_eq_zero_or_one k with h1 | h1
  · exfalso
    have h2 : 2 ∣ Nat.gcd k (2 * n) := Nat.dvd_gcd (Nat.dvd_of_mod_eq_zero h1) (Nat.dvd_mul_right 2 n)
    rw [h] at h2
    have := Nat.le_of_dvd (by omega) h2
    omega
  · exact h1
theorem start6 {n q : Nat} (hp : Mr.Pr q) (hn : 2 ≤ n) (hd : 2 * n ∣ q - 1) : ∃ g, 2 ≤ g ∧ g < q ∧ Ordr q (g ^ ((q - 1) / (2 * n)) % q) (2 * n) := by
  have hq := hp.1
  obtain ⟨M, hM⟩ := hd
  have hM0 : 0 < M := Nat.pos_of_ne_zero fun h => by rw [h, Nat.mul_zero] at hM; omega
  have hqM : (q - 1) / (2 * n) = M := by rw [hM]; exact Nat.mul_div_cancel_left _ (by omega)
  obtain ⟨g, hg⟩ := exists_ord hp (q - 1) (by omega) (Nat.dvd_refl _)
  have hgm : Ordr q (g % q) (q - 1) := Ordr.modl.2 hg
  have hbig : 4 ≤ q - 1 := by
    have h1 : 2 * n * 1 ≤ 2 * n * M := Nat.mul_le_mul_left _ hM0
    omega
  refine ⟨g % q, ?_, Nat.mod_lt _ (by omega), by rw [hqM]; exact hgm.down (by omega) hM⟩
  rcases Nat.lt_or_ge (g % q) 2 with h1 | h1
  · exfalso
    rcases (show g % q = 0 ∨ g % q = 1 by omega) with h2 | h2
    · have h3 := U.coprime hp (by omega) hgm.2.1
      rw [h2, Nat.gcd_zero_right] at h3
      omega
    · have h3 := hgm.2.2 1 (by unfold Mr.U; rw [h2])
      have := Nat.le_of_dvd (by omega) h3
      omega
  · exact h1

/-- the search for an element of the order -/
def Sr6 (q n M g0 g one : Nat) : Prop := 2 ≤ g ∧ g ≤ g0 + 1 ∧ one < q ∧ (g = g0 + 1 → one = g0 ^ M % q)
def Ls6 (q n w k v : Nat) : Prop := Ordr q v (2 * n) ∧ v < q ∧ ∀ j, j < k → j % 2 = 1 → v ≤ w ^ j % q
theorem Ls6.step {q n w k v j : Nat} (h : Ls6 q n w k v) (hw : Ordr q w (2 * n)) (hn : n = 2 ^ j) (hq : 0 < q) (hk : k % 2 = 1) : Ls6 q n w (k + 2) (min v (w ^ k % q)) := by
  have hodd : ∀ i, i < k + 2 → i % 2 = 1 → i < k ∨ i = k := fun i h1 h2 => by omega
  rcases Nat.le_total v (w ^ k % q) with h1 | h1
  · rw [Nat.min_eq_left h1]
    refine ⟨h.1, h.2.1, fun i hi ho => ?_⟩
    rcases hodd i hi ho with h2 | rfl
    · exact h.2.2 i h2 ho
    · exact h1
  · rw [Nat.min_eq_right h1]
    refine ⟨hw.pow (odd_gcd hn hk), Nat.mod_lt _ hq, fun i hi ho => ?_⟩
    rcases hodd i hi ho with h2 | rfl
    · exact Nat.le_trans h1 (h.2.2 i h2 ho)
    · exact Nat.le_refl _

set_option maxRecDepth 100000 in
set_option maxHeartbeats 2000000 in
theorem rroot6_any (n q ψ : Nat) (w : World) (h : NewOk (n : Int) q) (hψ : Least q (2 * n) ψ) :
    Calls Try.prog 40 #[.int .i64 n, .int .u32 q] w (RetP w (.int .u32 ψ)) := by
  obtain ⟨hd, hq31, hpr, hmod⟩ := h
  rw [Int.toNat_natCast] at hmod
  obtain ⟨j, hj⟩ : ∃ j, n = 2 ^ j := by
    unfold dim6 at hd
    rcases (show n = 2 ∨ n = 4 ∨ n = 8 ∨ n = 16 ∨ n = 32 by omega) with rfl | rfl | rfl | rfl | rfl
    · exact ⟨1, rfl⟩
    · exact ⟨2, rfl⟩
    · exact ⟨3, rfl⟩
    · exact ⟨4, rfl⟩
    · exact ⟨5, rfl⟩
  have hn2 : 2 ≤ n ∧ n ≤ 32 := by unfold dim6 at hd; omega
  have hq2 := hpr.1
  have hqn : 2 * n < q := by
    rcases Nat.lt_or_ge (2 * n) q with h1 | h1
    · exact h1
    · exfalso
      rcases Nat.lt_or_ge q (2 * n) with h2 | h2
      · rw [Nat.mod_eq_of_lt h2] at hmod; omega
      · rw [show q = 2 * n by omega, Nat.mod_self] at hmod; omega
  have hdv : 2 * n ∣ q - 1 := ⟨q / (2 * n), by have := Nat.div_add_mod q (2 * n); omega⟩
  obtain ⟨g0, hg0, hg0q, hgo⟩ := start6 hpr hn2.1 hdv
  obtain ⟨M, hM⟩ : ∃ M, (q - 1) / (2 * n) = M := ⟨_, rfl⟩
  rw [hM] at hgo
  have hMi : ((q : Int) - 1) / (2 * (n : Int)) = (M : Int) := by rw [← hM, Int.natCast_ediv, Int.ofNat_sub (by omega)]; simp
  have hMt : ((q : Int) - 1).tdiv (2 * (n : Int)) = (M : Int) := by rw [Int.tdiv_eq_ediv_of_nonneg (by omega), hMi]
  have hMb : M ≤ q := by rw [← hM]; have := Nat.div_le_self (q - 1) (2 * n); omega
  have HGO := Lib.hid (neg_of_ord hpr (by omega) hgo)
  have HPR := Lib.hid hpr
  have HPSI := Lib.hid hψ
  have HJ := Lib.hid hj
  have hn0 : ¬ 2 * n = 0 := by omega
  clear hd hmod hdv hgo hM hpr hψ hj
  go_enter Try.func40, Try.ntmps40
  go_wp2_with fail
  go_loop [6, 7] (fun O G => ∃ one g : Nat, O = .int .u64 (one : Int) ∧ G = .int .u64 (g : Int) ∧ Sr6 q n M g0 g one) (fun _ G => g0 + 1 - (intOf G).toNat)
  case atStart => exact ⟨0, 2, rfl, rfl, Nat.le_refl _, by omega, by omega, fun h => by omega⟩
  case round =>
    obtain ⟨one, g, rfl, rfl, hg2, hgg, hone, hlast⟩ := hrel
    have HLAST := Lib.hid hlast
    have HP1 := Lib.hid (rpow6_any one n q w (by omega) (by omega) hq2 hq31)
    obtain ⟨x, hx⟩ : ∃ x, one ^ n % q = x := ⟨_, rfl⟩
    have hxq : x < q := by rw [← hx]; exact Nat.mod_lt _ (by omega)
    rw [hx] at HP1
    have HX := Lib.hid hx
    clear hlast hx
    by_cases hxe : x = q - 1
    · have q1 : ((x : Int) != (q : Int) - 1) = false := by simp; omega
      have hord := ord_of_neg HPR.out (by omega) HJ.out (show one ^ n % q = q - 1 by rw [HX.out, hxe])
      have HORD := Lib.hid hord
      clear hxe hord
      go_wp2_with fail
      (with_reducible refine HP1.out.mono ?_)
      rintro e w2 ⟨rfl, hw2⟩
      subst hw2
      go_wp2_with fail
      go_loop [8, 9] (fun L K => ∃ v k : Nat, L = .int .u64 (v : Int) ∧ K = .int .i64 (k : Int) ∧ k % 2 = 1 ∧ k ≤ 2 * n + 1 ∧ v < q ∧ Ls6 q n one k v) (fun _ K => 2 * n + 2 - (intOf K).toNat)
      case atStart => exact ⟨one, 1, rfl, rfl, rfl, by omega, hone, HORD.out, hone, fun j hj ho => by omega⟩
      case round =>
        obtain ⟨v, k, rfl, rfl, hko, hkn, hvq, hls⟩ := hrel
        have HLS := Lib.hid hls
        clear hls
        by_cases hkl : k < 2 * n
        · have q2 : decide ((k : Int) < 2 * (n : Int)) = true := decide_eq_true (by omega)
          have HP2 := Lib.hid (rpow6_any one k q w (by omega) (by omega) hq2 hq31)
          obtain ⟨y, hy⟩ : ∃ y, one ^ k % q = y := ⟨_, rfl⟩
          have hyq : y < q := by rw [← hy]; exact Nat.mod_lt _ (by omega)
          rw [hy] at HP2
          obtain ⟨m, hm⟩ : ∃ m, min v y = m := ⟨_, rfl⟩
          have hmi : (if y < v then (y : Int) else (v : Int)) = (m : Int) := by rw [← hm]; split <;> omega
          have hmq : m < q := by rw [← hm]; omega
          have HNX : Hid (Ls6 q n one (k + 2) m) := Lib.hid (by rw [← hm, ← hy]; exact HLS.out.step HORD.out HJ.out (by omega) hko)
          clear hy hm
          go_wp2_with fail
          (with_reducible refine HP2.out.mono ?_)
          rintro e w3 ⟨rfl, hw3⟩
          subst hw3
          go_wp2
          go_round
          case rel => exact ⟨m, k + 2, rfl, by go_num, by omega, by omega, hmq, HNX.out⟩
          case measure => simp [intOf]; omega
        · have q2 : decide ((k : Int) < 2 * (n : Int)) = false := decide_eq_false (by omega)
          have hv : Least q (2 * n) v := least_of HPR.out HORD.out HLS.out.1 hvq fun i hi hg => HLS.out.2.2 i (by omega) (gcd_odd hg)
          have hve := HPSI.out.uniq hv
          have HVE := Lib.hid hve
          clear hv hve
          go_wp2
          go_ret
          exact ⟨by rw [HVE.out]; rfl, rfl⟩
    · have q1 : ((x : Int) != (q : Int) - 1) = true := by simp; omega
      have hgl : g ≤ g0 := by
        rcases Nat.lt_or_ge g0 g with h1 | h1
        · exfalso
          have h2 := HLAST.out (by omega)
          apply hxe
          rw [← HX.out, h2]
          exact HGO.out
        · exact h1
      have HP2 := Lib.hid (rpow6_any g M q w (by omega) (by omega) hq2 hq31)
      obtain ⟨y, hy⟩ : ∃ y, g ^ M % q = y := ⟨_, rfl⟩
      have hyq : y < q := by rw [← hy]; exact Nat.mod_lt _ (by omega)
      rw [hy] at HP2
      have HY := Lib.hid hy
      clear hy hxe
      go_wp2_with fail
      (with_reducible refine HP1.out.mono ?_)
      rintro e w2 ⟨rfl, hw2⟩
      subst hw2
      go_wp2_with fail
      (with_reducible refine HP2.out.mono ?_)
      rintro e w3 ⟨rfl, hw3⟩
      subst hw3
      go_wp2
      go_round
      case rel => exact ⟨y, g + 1, rfl, by go_num, by omega, by omega, hyq, fun h => by rw [← HY.out]; congr 2; omega⟩
      case measure => simp [intOf]; omega
end Go.Proofs.Ytbajapjaejpcjaa
