/- Hensel: a simple root modulo p lifts in one way to a root modulo p^r. -/
/- The contract of factor.value: a polynomial's value and its derivative's, modulo m; slices of signed numbers. -/
/- The contract of the reference's at: a polynomial's value modulo m. -/
/- The contract of factor.Lift. -/
/- The contract of factor.Degree: the least d with p^d = 1 modulo 2 n. -/
import Derived.Test.YtcnkddoipmaddaaFft
import Derived.Test.YtcnkddoipmaddaaFacA
namespace Go.Proofs.Ytcnkddoipmaddaa
set_option linter.unusedVariables false

/-- the value and the derivative of a polynomial with n coefficients -/
def pv (a : Nat → Int) (n : Nat) (x : Int) : Int := zsum (fun i => a i * x ^ i) n
def dv (a : Nat → Int) (n : Nat) (x : Int) : Int := zsum (fun i => a i * ((i : Int) * x ^ (i - 1))) n
theorem taylor1 (x h : Int) : ∀ i : Nat, ∃ k, (x + h) ^ i = x ^ i + (i : Int) * x ^ (i - 1) * h + h * h * k
  | 0 => ⟨0, by simp⟩
  | 1 => ⟨0, by rw [Int.pow_succ, Int.pow_zero, Int.pow_succ, Int.pow_zero]; simp⟩
  | i + 2 => by
    obtain ⟨k, hk⟩ := taylor1 x h (i + 1)
    refine ⟨k * (x + h) + ((i + 1 : Nat) : Int) * x ^ i, ?_⟩
    rw [Int.pow_succ (x + h), hk]
    rw [show i + 1 - 1 = i by omega, show i + 2 - 1 = i + 1 by omega, Int.pow_succ x (i + 1), Int.pow_succ x i]
    rw [show ((i + 2 : Nat) : Int) = ((i + 1 : Nat) : Int) + 1 by omega]
    grind
theorem taylor (a : Nat → Int) (x h : Int) : ∀ n : Nat, ∃ k, pv a n (x + h) = pv a n x + h * dv a n x + h * h * k
  | 0 => ⟨0, by simp [pv, dv, zsum]⟩
  | n + 1 => by
    obtain ⟨k, hk⟩ := taylor a x h n
    obtain ⟨k2, hk2⟩ := taylor1 x h n
    refine ⟨k + a n * k2, ?_⟩
    unfold pv dv at hk ⊢
    simp only [zsum]
    rw [hk, hk2]
    grind
theorem pv_cg {q : Nat} (a : Nat → Int) (n : Nat) {x y : Int} (h : Cg q x y) : Cg q (pv a n x) (pv a n y) := Cg.sum n fun i _ => (Cg.refl _ _).mul (h.pow i)
theorem dv_cg {q : Nat} (a : Nat → Int) (n : Nat) {x y : Int} (h : Cg q x y) : Cg q (dv a n x) (dv a n y) := Cg.sum n fun i _ => (Cg.refl _ _).mul ((Cg.refl _ _).mul (h.pow _))
/-- one step: x + t P is a root modulo P p just for one t modulo p -/
theorem step_cg {p P : Nat} (hP : p ∣ P) (a : Nat → Int) (n : Nat) (x t : Int) : Cg (P * p) (pv a n (x + t * P)) (pv a n x + t * P * dv a n x) := by
  obtain ⟨k, hk⟩ := taylor a x (t * P) n
  obtain ⟨c, hc⟩ := hP
  rw [hk]
  refine ⟨t * t * c * k, ?_⟩
  have h1 : (P : Int) = (p : Int) * (c : Int) := by rw [hc]; simp
  rw [show (((P * p : Nat) : Nat) : Int) = (P : Int) * (p : Int) by simp]
  grind
theorem cg_scale {p P : Nat} (hP : 0 < P) {x : Int} : Cg (P * p) (P * x) 0 ↔ Cg p x 0 := by
  unfold Cg
  rw [Int.sub_zero, Int.sub_zero, show (((P * p : Nat) : Nat) : Int) = (P : Int) * (p : Int) by simp]
  constructor
  · rintro ⟨c, hc⟩
    refine ⟨c, ?_⟩
    have : (P : Int) * x = (P : Int) * ((p : Int) * c) := by rw [hc]; grind
    exact Int.eq_of_mul_eq_mul_left (by omega) this
  · rintro ⟨c, hc⟩
    exact ⟨c, by rw [hc]; grind⟩
/-- two lifts of one root agree modulo P p -/
theorem lift_uniq {p P : Nat} (hp : Mr.Pr p) (hP : p ∣ P) (hP0 : 0 < P) (a : Nat → Int) (n : Nat) {x t u : Int} (hd : ¬ Cg p (dv a n x) 0)
    (h1 : Cg (P * p) (pv a n (x + t * P)) 0) (h2 : Cg (P * p) (pv a n (x + u * P)) 0) : Cg p t u := by
  have e1 := (step_cg hP a n x t).symm.trans h1
  have e2 := (step_cg hP a n x u).symm.trans h2
  have e3 := e1.sub e2
  rw [show pv a n x + t * P * dv a n x - (pv a n x + u * P * dv a n x) = P * (dv a n x * (t - u)) by grind, Int.sub_zero] at e3
  have e4 := (cg_scale hP0).1 e3
  have e5 := Cg.cancel hp e4 hd
  have := e5.add (Cg.refl p u)
  rwa [show t - u + u = t by omega, Int.zero_add] at this
/-- a lift: v = f(x) modulo P p, v = P w, and t d = -w modulo p -/
theorem lift_is {p P : Nat} (hP : p ∣ P) (hP0 : 0 < P) (a : Nat → Int) (n : Nat) {x t w : Int} (hv : Cg (P * p) (pv a n x) (P * w)) (ht : Cg p (w + t * dv a n x) 0) : Cg (P * p) (pv a n (x + t * P)) 0 := by
  refine (step_cg hP a n x t).trans ?_
  have e1 := hv.add (Cg.refl (P * p) (t * P * dv a n x))
  refine e1.trans ?_
  rw [show (P : Int) * w + t * P * dv a n x = P * (w + t * dv a n x) by grind]
  exact (cg_scale hP0).2 ht
end Go.Proofs.Ytcnkddoipmaddaa

namespace Go.Proofs.Ytcnkddoipmaddaa
open Go.RowKit
set_option linter.unusedVariables false

/-- a slice of signed 64 bit numbers that reads as f -/
def Si (w : World) (lo hi : Nat) (A : Option Addr) (n : Nat) (f : Nat → Int) : Prop :=
  (∀ j, n ≤ j → f j = 0) ∧ (0 < n → ∃ b off, A = some ⟨b, off, none⟩ ∧ lo ≤ b ∧ b < hi ∧ ∀ j, j < n → w.cell? ⟨b, off + j, none⟩ = some (.int .i64 (f j)))
theorem Si.below {w w' : World} {lo hi B n : Nat} {A : Option Addr} {f : Nat → Int} (h : Si w lo hi A n f) (hb : Below B w w') (hB : hi ≤ B) : Si w' lo hi A n f :=
  ⟨h.1, fun hn => by
    obtain ⟨b, off, e, h1, h2, h3⟩ := h.2 hn
    exact ⟨b, off, e, h1, h2, fun j hj => (hb.cell (p := ⟨b, off + j, none⟩) (by show b < B; omega)).trans (h3 j hj)⟩⟩

theorem pv_shift (a : Nat → Int) (i k : Nat) (x : Int) : pv (fun j => a (i + j)) (k + 1) x = a i + x * pv (fun j => a (i + 1 + j)) k x := by
  unfold pv
  rw [Nat.add_comm k 1, zsum_more, ← zsum_mul_left]
  simp only [zsum, Nat.add_zero, Int.pow_zero, Int.mul_one, Int.zero_add]
  congr 1
  refine zsum_congr k fun j _ => ?_
  rw [show i + (1 + j) = i + 1 + j by omega, show 1 + j = j + 1 by omega, Int.pow_succ]
  grind
theorem dv_shift (a : Nat → Int) (i k : Nat) (x : Int) : dv (fun j => a (i + j)) (k + 1) x = pv (fun j => a (i + 1 + j)) k x + x * dv (fun j => a (i + 1 + j)) k x := by
  unfold pv dv
  rw [Nat.add_comm k 1, zsum_more, ← zsum_mul_left, ← zsum_add]
  simp only [zsum]
  rw [show (((0 : Nat) : Int)) = 0 by rfl, Int.zero_mul, Int.mul_zero, Int.add_zero, Int.zero_add]
  refine zsum_congr k fun j _ => ?_
  rw [show i + (1 + j) = i + 1 + j by omega, show 1 + j - 1 = j by omega, show ((1 + j : Nat) : Int) = (j : Int) + 1 by omega]
  cases j with
  | zero => simp
  | succ t =>
    rw [show t + 1 - 1 = t by omega, Int.pow_succ]
    grind
/-- the value and the derivative, as residues -/
def vN (a : Nat → Int) (n x m : Nat) : Nat := (pv a n x % (m : Int)).toNat
def dN (a : Nat → Int) (n x m : Nat) : Nat := (dv a n x % (m : Int)).toNat
theorem toNat_cg {m : Nat} (hm : 0 < m) (z : Int) : Cg m ((((z % (m : Int)).toNat : Nat)) : Int) z := by
  rw [Int.toNat_of_nonneg (Int.emod_nonneg _ (by omega))]
  exact Cg.mod z
theorem toNat_lt {m : Nat} (hm : 0 < m) (z : Int) : (z % (m : Int)).toNat < m := by
  have h1 := Int.emod_nonneg z (show (m : Int) ≠ 0 by omega)
  have h2 := Int.emod_lt_of_pos z (show (0 : Int) < m by omega)
  omega
theorem eq_vN {a : Nat → Int} {n x m v : Nat} (hv : v < m) (h : Cg m (v : Int) (pv a n x)) : v = vN a n x m :=
  Cg.eq_nat (h.trans (toNat_cg (by omega) _).symm) hv (toNat_lt (by omega) _)
theorem eq_dN {a : Nat → Int} {n x m v : Nat} (hv : v < m) (h : Cg m (v : Int) (dv a n x)) : v = dN a n x m :=
  Cg.eq_nat (h.trans (toNat_cg (by omega) _).symm) hv (toNat_lt (by omega) _)

set_option maxRecDepth 100000 in
set_option maxHeartbeats 2000000 in
theorem value_any (n c x m lo hi : Nat) (A : Option Addr) (a : Nat → Int) (w : World) (ha : Si w lo hi A n a) (hn : n ≤ 1000000) (hx : x ≤ 2147483647) (hm2 : 2 ≤ m) (hm : m ≤ 2147483647) :
    Calls Try.prog 57 #[.slice A n c, .int .u64 (x : Int), .int .u64 (m : Int)] w (RetP w (.tuple #[.int .u64 ((vN a n x m : Nat) : Int), .int .u64 ((dN a n x m : Nat) : Int)])) := by
  have HA := Lib.hid ha
  have hm0 : ¬ m = 0 := by omega
  clear ha
  go_enter Try.func57, Try.ntmps57
  go_wp2
  go_loop [6, 7, 8] (fun V D I => ∃ (k v d : Nat) (z : Int), k ≤ n ∧ I = .int .i64 z ∧ z = (k : Int) - 1 ∧ V = .int .u64 (v : Int) ∧ D = .int .u64 (d : Int) ∧ v < m ∧ d < m ∧ Cg m (v : Int) (pv (fun j => a (k + j)) (n - k) x) ∧ Cg m (d : Int) (dv (fun j => a (k + j)) (n - k) x)) (fun _ _ I => (intOf I + 1).toNat)
  case atStart => exact ⟨n, 0, 0, _, Nat.le_refl _, rfl, by go_num, rfl, rfl, by omega, by omega, by rw [Nat.sub_self]; exact Cg.refl _ _, by rw [Nat.sub_self]; exact Cg.refl _ _⟩
  case round =>
    obtain ⟨k, v, d, z, hkn, rfl, hz, rfl, rfl, hvm, hdm, hv, hd⟩ := hrel
    have HV := Lib.hid hv
    have HD := Lib.hid hd
    clear hv hd
    rcases k with _ | k
    · have e1 : decide (z ≥ 0) = false := decide_eq_false (by omega)
      have e2 : decide (0 ≤ z) = false := decide_eq_false (by omega)
      have HE : Hid (v = vN a n x m ∧ d = dN a n x m) := Lib.hid (by
        have h1 := HV.out
        have h2 := HD.out
        simp only [Nat.zero_add, Nat.sub_zero] at h1 h2
        exact ⟨eq_vN hvm h1, eq_dN hdm h2⟩)
      clear hz
      go_wp2
      go_ret2
      exact ⟨by rw [← HE.out.1, ← HE.out.2]; rfl, rfl⟩
    · obtain rfl : z = (k : Int) := by omega
      have e1 : decide ((k : Int) ≥ 0) = true := decide_eq_true (by omega)
      have e2 : decide (0 ≤ (k : Int)) = true := decide_eq_true (by omega)
      obtain ⟨g, off, hAe, _, hg, hcell⟩ := HA.out.2 (by omega)
      have k1 := hcell k (by omega)
      obtain ⟨y, hy⟩ : ∃ y, a k = y := ⟨_, rfl⟩
      rw [hy] at k1
      rw [hAe]
      have b1 : 0 ≤ (k : Int) := by omega
      have b2 : (k : Int) < (n : Int) := by omega
      obtain ⟨mm, hmm⟩ : ∃ mm, d * x = mm := ⟨_, rfl⟩
      have hmi : (d : Int) * (x : Int) = (mm : Int) := by rw [← hmm]; simp
      have hmb : mm ≤ 2147483647 * 2147483647 := by rw [← hmm]; exact Nat.mul_le_mul (by omega) hx
      obtain ⟨d2, hd2⟩ : ∃ d2, (mm + v) % m = d2 := ⟨_, rfl⟩
      have hd2i : ((mm : Int) + (v : Int)) % (m : Int) = (d2 : Int) := by rw [← hd2]; simp
      have hd2t : ((mm : Int) + (v : Int)).tmod (m : Int) = (d2 : Int) := by rw [Int.tmod_eq_emod_of_nonneg (by omega), hd2i]
      have hd2m : d2 < m := by rw [← hd2]; exact Nat.mod_lt _ (by omega)
      obtain ⟨m2, hm2'⟩ : ∃ m2, v * x = m2 := ⟨_, rfl⟩
      have hm2i : (v : Int) * (x : Int) = (m2 : Int) := by rw [← hm2']; simp
      have hm2b : m2 ≤ 2147483647 * 2147483647 := by rw [← hm2']; exact Nat.mul_le_mul (by omega) hx
      obtain ⟨t, ht⟩ : ∃ t, y.tmod (m : Int) = t := ⟨_, rfl⟩
      have ht1 : -(m : Int) < t ∧ t < (m : Int) := by
        rw [← ht]
        have h1 := Int.tmod_lt_of_pos y (show (0 : Int) < m by omega)
        have h2 := Int.lt_tmod_of_pos y (show (0 : Int) < m by omega)
        omega
      have htc : Cg m t y := by
        refine ⟨-(y.tdiv m), ?_⟩
        have := Int.mul_tdiv_add_tmod y m
        rw [ht] at this
        grind
      obtain ⟨u, hu, hum, huc⟩ : ∃ u : Nat, (t < 0 → t + (m : Int) = (u : Int)) ∧ (u < m) ∧ (¬ t < 0 → t = (u : Int)) := by
        by_cases h : t < 0
        · exact ⟨(t + m).toNat, fun _ => by omega, by omega, fun h2 => absurd h h2⟩
        · exact ⟨t.toNat, fun h2 => absurd h2 h, by omega, fun _ => by omega⟩
      have hucg : Cg m (u : Int) y := by
        by_cases h : t < 0
        · rw [← hu h]
          exact Cg.trans ⟨1, by omega⟩ htc
        · rw [← huc h]
          exact htc
      obtain ⟨v2, hv2⟩ : ∃ v2, (m2 + u) % m = v2 := ⟨_, rfl⟩
      have hv2i : ((m2 : Int) + (u : Int)) % (m : Int) = (v2 : Int) := by rw [← hv2]; simp
      have hv2t : ((m2 : Int) + (u : Int)).tmod (m : Int) = (v2 : Int) := by rw [Int.tmod_eq_emod_of_nonneg (by omega), hv2i]
      have hv2m : v2 < m := by rw [← hv2]; exact Nat.mod_lt _ (by omega)
      have hnx : Cg m (v2 : Int) (pv (fun j => a (k + j)) (n - k) x) ∧ Cg m (d2 : Int) (dv (fun j => a (k + j)) (n - k) x) := by
        rw [show n - k = n - (k + 1) + 1 by omega, pv_shift, dv_shift, hy, ← hv2, ← hd2]
        refine ⟨(Cg.modN _).trans ?_, (Cg.modN _).trans ?_⟩
        · rw [show ((m2 + u : Nat) : Int) = (u : Int) + (x : Int) * (v : Int) by rw [← hm2']; simp; grind]
          exact hucg.add ((Cg.refl _ _).mul HV.out)
        · rw [show ((mm + v : Nat) : Int) = (v : Int) + (x : Int) * (d : Int) by rw [← hmm]; simp; grind]
          exact HV.out.add ((Cg.refl _ _).mul HD.out)
      have HNX := Lib.hid hnx
      clear hcell hy hAe hmm hd2 hm2' htc hucg hv2 hnx hz
      by_cases hneg : t < 0
      · have hu' := hu hneg
        have e3 : decide (t < 0) = true := decide_eq_true hneg
        clear hu huc
        go_wp2
        go_round
        case rel => exact ⟨k, v2, d2, _, by omega, rfl, by go_num, rfl, rfl, hv2m, hd2m, HNX.out.1, HNX.out.2⟩
        case measure => simp only [intOf]; omega
      · have hu' := huc hneg
        have e3 : decide (t < 0) = false := decide_eq_false hneg
        clear hu huc
        subst hu'
        go_wp2
        go_round
        case rel => exact ⟨k, v2, d2, _, by omega, rfl, by go_num, rfl, rfl, hv2m, hd2m, HNX.out.1, HNX.out.2⟩
        case measure => simp only [intOf]; omega
end Go.Proofs.Ytcnkddoipmaddaa

namespace Go.Proofs.Ytcnkddoipmaddaa
open Go.RowKit
set_option linter.unusedVariables false

set_option maxRecDepth 100000 in
set_option maxHeartbeats 2000000 in
theorem rat_any (n c x m lo hi : Nat) (A : Option Addr) (a : Nat → Int) (w : World) (ha : Si w lo hi A n a) (hn : n ≤ 1000000) (hx : x ≤ 2147483647) (hm2 : 2 ≤ m) (hm : m ≤ 2147483647) :
    Calls Try.prog 59 #[.slice A n c, .int .u64 (x : Int), .int .u64 (m : Int)] w (RetP w (.int .u64 ((vN a n x m : Nat) : Int))) := by
  have HA := Lib.hid ha
  have hm0 : ¬ m = 0 := by omega
  clear ha
  go_enter Try.func59, Try.ntmps59
  go_wp2
  go_loop [7, 8, 9] (fun S Q I => ∃ i s pw : Nat, i ≤ n ∧ I = .int .i64 (i : Int) ∧ S = .int .u64 (s : Int) ∧ Q = .int .u64 (pw : Int) ∧ s < m ∧ pw < m ∧ Cg m (s : Int) (pv a i x) ∧ Cg m (pw : Int) ((x : Int) ^ i)) (fun _ _ I => n - (intOf I).toNat)
  case atStart => exact ⟨0, 0, 1, Nat.zero_le _, rfl, rfl, rfl, by omega, by omega, Cg.refl _ _, Cg.of_eq (by simp)⟩
  case round =>
    obtain ⟨i, s, pw, hin, rfl, rfl, rfl, hsm, hpm, hs, hp⟩ := hrel
    have HS := Lib.hid hs
    have HP := Lib.hid hp
    clear hs hp
    by_cases hil : i < n
    · have e1 : decide ((i : Int) < (n : Int)) = true := decide_eq_true (by omega)
      obtain ⟨g, off, hAe, _, hg, hcell⟩ := HA.out.2 (by omega)
      have k1 := hcell i hil
      obtain ⟨y, hy⟩ : ∃ y, a i = y := ⟨_, rfl⟩
      rw [hy] at k1
      rw [hAe]
      have b1 : 0 ≤ (i : Int) := by omega
      have b2 : (i : Int) < (n : Int) := by omega
      obtain ⟨t, ht⟩ : ∃ t, y.tmod (m : Int) = t := ⟨_, rfl⟩
      have ht1 : -(m : Int) < t ∧ t < (m : Int) := by
        rw [← ht]
        have h1 := Int.tmod_lt_of_pos y (show (0 : Int) < m by omega)
        have h2 := Int.lt_tmod_of_pos y (show (0 : Int) < m by omega)
        omega
      have htc : Cg m t y := by
        refine ⟨-(y.tdiv m), ?_⟩
        have := Int.mul_tdiv_add_tmod y m
        rw [ht] at this
        grind
      obtain ⟨u, hu, hum, huc⟩ : ∃ u : Nat, (t < 0 → t + (m : Int) = (u : Int)) ∧ (u < m) ∧ (¬ t < 0 → t = (u : Int)) := by
        by_cases h : t < 0
        · exact ⟨(t + m).toNat, fun _ => by omega, by omega, fun h2 => absurd h h2⟩
        · exact ⟨t.toNat, fun h2 => absurd h2 h, by omega, fun _ => by omega⟩
      have hucg : Cg m (u : Int) y := by
        by_cases h : t < 0
        · rw [← hu h]
          exact Cg.trans ⟨1, by omega⟩ htc
        · rw [← huc h]
          exact htc
      obtain ⟨mm, hmm⟩ : ∃ mm, u * pw = mm := ⟨_, rfl⟩
      have hmi : (u : Int) * (pw : Int) = (mm : Int) := by rw [← hmm]; simp
      have hmb : mm ≤ 2147483647 * 2147483647 := by rw [← hmm]; exact Nat.mul_le_mul (by omega) (by omega)
      obtain ⟨s2, hs2⟩ : ∃ s2, (s + mm) % m = s2 := ⟨_, rfl⟩
      have hs2i : ((s : Int) + (mm : Int)) % (m : Int) = (s2 : Int) := by rw [← hs2]; simp
      have hs2t : ((s : Int) + (mm : Int)).tmod (m : Int) = (s2 : Int) := by rw [Int.tmod_eq_emod_of_nonneg (by omega), hs2i]
      have hs2m : s2 < m := by rw [← hs2]; exact Nat.mod_lt _ (by omega)
      obtain ⟨m2, hm2'⟩ : ∃ m2, pw * x = m2 := ⟨_, rfl⟩
      have hm2i : (pw : Int) * (x : Int) = (m2 : Int) := by rw [← hm2']; simp
      have hm2b : m2 ≤ 2147483647 * 2147483647 := by rw [← hm2']; exact Nat.mul_le_mul (by omega) hx
      obtain ⟨p2, hp2⟩ : ∃ p2, m2 % m = p2 := ⟨_, rfl⟩
      have hp2i : (m2 : Int) % (m : Int) = (p2 : Int) := by rw [← hp2]; simp
      have hp2t : (m2 : Int).tmod (m : Int) = (p2 : Int) := by rw [Int.tmod_eq_emod_of_nonneg (by omega), hp2i]
      have hp2m : p2 < m := by rw [← hp2]; exact Nat.mod_lt _ (by omega)
      have hnx : Cg m (s2 : Int) (pv a (i + 1) x) ∧ Cg m (p2 : Int) ((x : Int) ^ (i + 1)) := by
        refine ⟨?_, ?_⟩
        · rw [← hs2]
          refine (Cg.modN _).trans ?_
          rw [show ((s + mm : Nat) : Int) = (s : Int) + (u : Int) * (pw : Int) by rw [← hmm]; simp]
          show Cg m _ (pv a i x + a i * (x : Int) ^ i)
          rw [hy]
          exact HS.out.add (hucg.mul HP.out)
        · rw [← hp2]
          refine (Cg.modN _).trans ?_
          rw [show ((m2 : Nat) : Int) = (pw : Int) * (x : Int) by rw [hm2i], Int.pow_succ]
          exact HP.out.mul (Cg.refl _ _)
      have HNX := Lib.hid hnx
      clear hcell hy hAe hmm hm2' htc hucg hs2 hp2 hnx
      by_cases hneg : t < 0
      · have hu' := hu hneg
        have e3 : decide (t < 0) = true := decide_eq_true hneg
        clear hu huc
        go_wp2
        go_round
        case rel => exact ⟨i + 1, s2, p2, hil, by go_num, rfl, rfl, hs2m, hp2m, HNX.out.1, HNX.out.2⟩
        case measure => simp only [intOf]; omega
      · have hu' := huc hneg
        have e3 : decide (t < 0) = false := decide_eq_false hneg
        clear hu huc
        subst hu'
        go_wp2
        go_round
        case rel => exact ⟨i + 1, s2, p2, hil, by go_num, rfl, rfl, hs2m, hp2m, HNX.out.1, HNX.out.2⟩
        case measure => simp only [intOf]; omega
    · obtain rfl : n = i := by omega
      have e1 : decide ((n : Int) < (n : Int)) = false := decide_eq_false (by omega)
      have HE : Hid (s = vN a n x m) := Lib.hid (eq_vN hsm HS.out)
      go_wp2
      go_ret
      exact ⟨by rw [← HE.out]; rfl, rfl⟩
end Go.Proofs.Ytcnkddoipmaddaa

namespace Go.Proofs.Ytcnkddoipmaddaa
open Go.RowKit
set_option linter.unusedVariables false

/-- the root modulo p^r above a simple root modulo p -/
def Lf (a : Nat → Int) (n p : Nat) (r : Nat) (root x : Nat) : Prop := x < p ^ r ∧ x % p = root ∧ Cg (p ^ r) (pv a n x) 0
def LfPre (a : Nat → Int) (n p root : Nat) : Prop := vN a n root p = 0 ∧ dN a n root p ≠ 0
/-- what Lift leaves -/
def RetLf (w : World) (a : Nat → Int) (n p : Nat) (r : Int) (root : Nat) (e : Ending) (w' : World) : Prop :=
  Below w.heap.size w w' ∧ ((¬ (Pl p r ∧ root < p) ∧ e = .returned (.tuple #[.int .u32 0, .int .i64 2])) ∨ ((Pl p r ∧ root < p) ∧ 256 < n ∧ e = .returned (.tuple #[.int .u32 0, .int .i64 3])) ∨ ((Pl p r ∧ root < p) ∧ n ≤ 256 ∧ ¬ LfPre a n p root ∧ e = .returned (.tuple #[.int .u32 0, .int .i64 4])) ∨
    ((Pl p r ∧ root < p) ∧ n ≤ 256 ∧ LfPre a n p root ∧ ∃ x : Nat, Lf a n p r.toNat root x ∧ e = .returned (.tuple #[.int .u32 (x : Int), .int .i64 0])))
theorem vN_cg {a : Nat → Int} {n x m : Nat} (hm : 0 < m) : Cg m ((vN a n x m : Nat) : Int) (pv a n x) := toNat_cg hm _
theorem dN_cg {a : Nat → Int} {n x m : Nat} (hm : 0 < m) : Cg m ((dN a n x m : Nat) : Int) (dv a n x) := toNat_cg hm _
theorem vN_lt {a : Nat → Int} {n x m : Nat} (hm : 0 < m) : vN a n x m < m := toNat_lt hm _
theorem dN_lt {a : Nat → Int} {n x m : Nat} (hm : 0 < m) : dN a n x m < m := toNat_lt hm _
/-- one step of the lift, in numbers -/
theorem lift_step {a : Nat → Int} {n p i root x inv : Nat} (hp : Mr.Pr p) (hi : 1 ≤ i) (hinv : inv * dN a n root p % p = 1 % p) (h : Lf a n p i root x) :
    Lf a n p (i + 1) root (x + (p - vN a n x (p ^ i * p) / p ^ i * inv % p) % p * p ^ i) := by
  obtain ⟨h1, h2, h3⟩ := h
  have hp2 := hp.1
  have hP0 : 0 < p ^ i := Nat.pow_pos (by omega)
  have hPp : p ∣ p ^ i := ⟨p ^ (i - 1), by rw [Nat.mul_comm, ← Nat.pow_succ]; congr 1; omega⟩
  obtain ⟨P, hP⟩ : ∃ P, p ^ i = P := ⟨_, rfl⟩
  rw [hP] at h1 h3 hP0 hPp
  have hmp : p ^ (i + 1) = P * p := by rw [Nat.pow_succ, hP]
  unfold Lf
  rw [hmp, hP]
  have hPP : 0 < P * p := Nat.mul_pos hP0 (by omega)
  obtain ⟨v, hv⟩ : ∃ v, vN a n x (P * p) = v := ⟨_, rfl⟩
  have hvc : Cg (P * p) (v : Int) (pv a n x) := by rw [← hv]; exact vN_cg hPP
  have hvP : P ∣ v := by
    have e1 : Cg P (v : Int) (pv a n x) := by
      obtain ⟨c, hc⟩ := hvc
      exact ⟨(p : Int) * c, by rw [hc]; simp; grind⟩
    have e2 := e1.trans h3
    unfold Cg at e2
    rw [Int.sub_zero] at e2
    exact Int.natCast_dvd_natCast.1 e2
  obtain ⟨w, hw⟩ := hvP
  rw [hv]
  have hdiv : v / P = w := by rw [hw, Nat.mul_comm, Nat.mul_div_cancel _ hP0]
  rw [hdiv]
  obtain ⟨t, ht⟩ : ∃ t, (p - w * inv % p) % p = t := ⟨_, rfl⟩
  rw [ht]
  have htp : t < p := by rw [← ht]; exact Nat.mod_lt _ (by omega)
  have hsize : x + t * P < P * p := by
    have : t * P ≤ (p - 1) * P := Nat.mul_le_mul_right _ (by omega)
    have e : (p - 1) * P + P = P * p := by
      rw [Nat.mul_comm P p]
      have : p = (p - 1) + 1 := by omega
      calc (p - 1) * P + P = ((p - 1) + 1) * P := by rw [Nat.add_mul, Nat.one_mul]
        _ = p * P := by rw [← this]
    omega
  refine ⟨hsize, ?_, ?_⟩
  · obtain ⟨c, hc⟩ := hPp
    rw [hc, show t * (p * c) = p * (t * c) by rw [Nat.mul_left_comm], Nat.add_mul_mod_self_left, h2]
  · rw [show ((x + t * P : Nat) : Int) = (x : Int) + (t : Int) * (P : Int) by simp]
    refine lift_is (w := (w : Int)) hPp hP0 a n ?_ ?_
    · refine hvc.symm.trans (Cg.of_eq ?_)
      rw [hw]; simp
    · -- the slope at x is the slope at the root
      have hxr : Cg p (x : Int) (root : Int) := by
        rw [← h2]
        exact (Cg.modN x).symm
      have e1 := dv_cg a n hxr
      have e2 : Cg p ((dN a n root p : Nat) : Int) (dv a n root) := dN_cg (by omega)
      obtain ⟨D, hD⟩ : ∃ D, dN a n root p = D := ⟨_, rfl⟩
      rw [hD] at e2 hinv
      have e3 : Cg p ((inv : Int) * (D : Int)) 1 := by
        rw [← Int.natCast_mul]
        exact Cg.nat.2 hinv
      have e4 : Cg p (t : Int) (-((w : Int) * (inv : Int))) := by
        rw [← ht]
        refine (Cg.modN _).trans ?_
        have hl : w * inv % p ≤ p := by have := Nat.mod_lt (w * inv) (show 0 < p by omega); omega
        rw [Int.natCast_sub hl]
        have := (Cg.modN (q := p) (w * inv)).neg
        refine Cg.trans ⟨1, ?_⟩ (this.trans (Cg.of_eq (by simp)))
        omega
      have e5 := e4.mul (e1.trans e2.symm)
      have e6 := (Cg.refl p (w : Int)).add e5
      refine e6.trans ?_
      have e7 := (Cg.refl p (w : Int)).mul e3
      have e8 := (Cg.refl p (w : Int)).sub e7
      rw [show (w : Int) + -((w : Int) * (inv : Int)) * (D : Int) = (w : Int) - (w : Int) * ((inv : Int) * (D : Int)) by grind]
      refine e8.trans (Cg.of_eq (by omega))

set_option maxRecDepth 100000 in
set_option maxHeartbeats 4000000 in
theorem flift_any (n c p root lo hi : Nat) (r : Int) (A : Option Addr) (a : Nat → Int) (w : World) (ha : Si w lo hi A n a) (hn : n ≤ 9223372036854775807) (hp : p ≤ 4294967295) (hr : r ≤ 9223372036854775807) (hroot : root ≤ 4294967295) (hhi : hi ≤ w.heap.size) :
    Calls Try.prog 47 #[.slice A n c, .int .u32 (p : Int), .int .i64 r, .int .u32 (root : Int)] w (RetLf w a n p r root) := by
  have HP := Lib.hid (plain_any p r w hp hr)
  have HA := Lib.hid ha
  clear ha
  go_enter Try.func47, Try.ntmps47
  go_wp2_with fail
  (with_reducible refine HP.out.mono ?_)
  rintro e w1 ⟨hb1, hh⟩
  have hz1 := hb1.size
  rcases hh with ⟨hpl, rfl⟩ | ⟨hpl, rfl⟩
  rotate_left
  · have HN : Hid (¬ (Pl p r ∧ root < p)) := Lib.hid fun h => hpl h.1
    clear hpl
    go_wp2_with fail
    go_ret2
    exact ⟨hb1, .inl ⟨HN.out, rfl⟩⟩
  by_cases hrp : root < p
  rotate_left
  · have HN : Hid (¬ (Pl p r ∧ root < p)) := Lib.hid fun h => hrp h.2
    have e1 : decide ((root : Int) ≥ (p : Int)) = true := decide_eq_true (by omega)
    have e2 : decide (p ≤ root) = true := decide_eq_true (by omega)
    clear hpl hrp
    go_wp2_with fail
    go_ret2
    exact ⟨hb1, .inl ⟨HN.out, rfl⟩⟩
  have HPL : Hid (Pl p r ∧ root < p) := Lib.hid ⟨hpl, hrp⟩
  have e1 : decide ((root : Int) ≥ (p : Int)) = false := decide_eq_false (by omega)
  have e2 : decide (p ≤ root) = false := decide_eq_false (by omega)
  by_cases hlong : 256 < n
  · have e3 : decide ((n : Int) > 256) = true := decide_eq_true (by omega)
    have HL := Lib.hid hlong
    clear hpl hlong
    go_wp2_with fail
    go_ret2
    exact ⟨hb1, .inr (.inl ⟨HPL.out, HL.out, rfl⟩)⟩
  have e3 : decide ((n : Int) > 256) = false := decide_eq_false (by omega)
  have HL : Hid (n ≤ 256) := Lib.hid (by omega)
  have hp3 := hpl.1
  have hp6 := hpl.2.1
  have HPR := Lib.hid hpl.2.2.1
  obtain ⟨k, rfl⟩ : ∃ k : Nat, r = (k : Int) := ⟨r.toNat, by have := hpl.2.2.2.1; omega⟩
  have hk1 : 1 ≤ k := by have := hpl.2.2.2.1; omega
  have hM := hpl.2.2.2.2
  rw [Int.toNat_natCast] at hM ⊢
  obtain ⟨M, hMe⟩ : ∃ M, p ^ k = M := ⟨_, rfl⟩
  rw [hMe] at hM ⊢
  have HM := Lib.hid hMe
  have HV := Lib.hid (value_any n c root p lo hi A a w1 (HA.out.below hb1 hhi) (by omega) (by omega) (by omega) (by omega))
  have hvl : vN a n root p < p := vN_lt (by omega)
  have hdl : dN a n root p < p := dN_lt (by omega)
  obtain ⟨v0, hv0⟩ : ∃ v0, vN a n root p = v0 := ⟨_, rfl⟩
  obtain ⟨d0, hd0⟩ : ∃ d0, dN a n root p = d0 := ⟨_, rfl⟩
  rw [hv0, hd0] at HV
  rw [hv0] at hvl
  rw [hd0] at hdl
  have HV0 := Lib.hid hv0
  have HD0 := Lib.hid hd0
  have HINV := Lib.hid (inverse_any d0 p w1)
  clear hpl hMe hv0 hd0 hlong
  by_cases hpre : v0 = 0 ∧ d0 ≠ 0
  rotate_left
  · have HN : Hid (¬ LfPre a n p root) := Lib.hid fun h => hpre ⟨by rw [← HV0.out]; exact h.1, by rw [← HD0.out]; exact h.2⟩
    have hcase : v0 ≠ 0 ∨ (v0 = 0 ∧ d0 = 0) := by omega
    clear hpre
    rcases hcase with h1 | ⟨rfl, rfl⟩
    · have f1 : ((v0 : Int) != 0) = true := by simp; omega
      clear h1
      go_wp2_with (go_at_call 57; refine HV.out.mono ?_; rintro e w' ⟨rfl, hw⟩; subst hw)
      (with_reducible refine HINV.out.mono ?_)
      rintro e w2 ⟨hb2, rfl⟩
      have hb12 := hb1.trans (hb2.mono hz1)
      go_wp2_with fail
      go_ret2
      exact ⟨hb12, .inr (.inr (.inl ⟨HPL.out, HL.out, HN.out, rfl⟩))⟩
    · have hie : invE 0 p = (0, 4) := invE_none (fits_one.2 ⟨by omega, by omega, by omega⟩) (by rw [Nat.gcd_zero_right]; omega)
      have HIE := Lib.hid hie
      clear hie
      go_wp2_with (go_at_call 57; refine HV.out.mono ?_; rintro e w' ⟨rfl, hw⟩; subst hw)
      refine HINV.out.mono ?_
      rintro e w2 ⟨hb2, rfl⟩
      rw [HIE.out]
      have hb12 := hb1.trans (hb2.mono hz1)
      go_wp2_with fail
      go_ret2
      exact ⟨hb12, .inr (.inr (.inl ⟨HPL.out, HL.out, HN.out, rfl⟩))⟩
  obtain ⟨rfl, hd0⟩ := hpre
  have hg : Nat.gcd p d0 = 1 := HPR.out.coprime fun hd => by have := Nat.le_of_dvd (by omega) hd; omega
  have hie := invE_ok (fits_one.2 ⟨hdl, by omega, by omega⟩) hg
  have hsp := invN_spec hdl (by omega) hg
  obtain ⟨iv, hiv⟩ : ∃ iv, invN d0 p = iv := ⟨_, rfl⟩
  rw [hiv] at hie hsp
  have hivp := hsp.1
  have HSP : Hid (iv * dN a n root p % p = 1 % p) := Lib.hid (by rw [HD0.out]; exact hsp.2)
  have HIE := Lib.hid hie
  have HPRE : Hid (LfPre a n p root) := Lib.hid ⟨HV0.out, by rw [HD0.out]; exact hd0⟩
  have HLF1 : Hid (Lf a n p 1 root root) := Lib.hid (by
    refine ⟨by rw [Nat.pow_one]; exact hrp, Nat.mod_eq_of_lt hrp, ?_⟩
    rw [Nat.pow_one]
    have := vN_cg (a := a) (n := n) (x := root) (m := p) (by omega)
    rw [HV0.out] at this
    exact this.symm)
  clear hg hie hsp hiv
  go_wp2_with (go_at_call 57; refine HV.out.mono ?_; rintro e w' ⟨rfl, hw⟩; subst hw)
  (with_reducible refine HINV.out.mono ?_)
  rintro e w2 ⟨hb2, rfl⟩
  rw [HIE.out]
  have hb12 := hb1.trans (hb2.mono hz1)
  have HA2 := Lib.hid (HA.out.below hb12 hhi)
  go_wp2_with fail
  go_loop [16, 17] (fun X P => ∃ x P' i : Nat, X = .int .u64 (x : Int) ∧ P = .int .u64 (P' : Int) ∧ 1 ≤ i ∧ i ≤ k ∧ p ^ i = P' ∧ P' ≤ M ∧ Lf a n p i root x) (fun _ P => M - (intOf P).toNat)
  case atStart => exact ⟨root, p, 1, rfl, rfl, Nat.le_refl _, hk1, Nat.pow_one p, by rw [← HM.out]; exact Nat.le_trans (Nat.le_of_eq (Nat.pow_one p).symm) (Nat.pow_le_pow_right (by omega) hk1), HLF1.out⟩
  case round =>
    obtain ⟨x, P, i, rfl, rfl, hi1, hik, hPi, hPM, hlf⟩ := hrel
    have hxP : x < P := by rw [← hPi]; exact hlf.1
    have HLF := Lib.hid hlf
    have HPI := Lib.hid hPi
    clear hlf hPi
    by_cases hlt : P < M
    · have hilt : i < k := by
        rcases Nat.lt_or_ge i k with h | h
        · exact h
        · exfalso
          have := HPI.out
          have := HM.out
          rw [show i = k by omega] at *
          omega
      obtain ⟨P2, hP2⟩ : ∃ P2, P * p = P2 := ⟨_, rfl⟩
      have hP2e : p ^ (i + 1) = P2 := by rw [Nat.pow_succ, HPI.out, hP2]
      have hP2M : P2 ≤ M := by rw [← hP2e, ← HM.out]; exact Nat.pow_le_pow_right (by omega) hilt
      have hP2i : (P : Int) * (p : Int) = (P2 : Int) := by rw [← hP2]; simp
      have hP1 : 1 ≤ P := by omega
      have hPlt : P < P2 := by
        rw [← hP2]
        calc P = P * 1 := (Nat.mul_one P).symm
          _ < P * p := Nat.mul_lt_mul_of_pos_left (by omega) (by omega)
      have HVX := Lib.hid (value_any n c x P2 lo hi A a w2 HA2.out (by have := HL.out; omega) (by omega) (by omega) (by omega))
      have hst := lift_step (a := a) (n := n) HPR.out hi1 HSP.out HLF.out
      rw [HPI.out, hP2] at hst
      obtain ⟨v, hv⟩ : ∃ v, vN a n x P2 = v := ⟨_, rfl⟩
      rw [hv] at hst HVX
      have hvl : v < P2 := by rw [← hv]; exact vN_lt (by omega)
      obtain ⟨q, hq⟩ : ∃ q, v / P = q := ⟨_, rfl⟩
      rw [hq] at hst
      have hqp : q < p := by rw [← hq]; exact Nat.div_lt_of_lt_mul (by rw [hP2]; exact hvl)
      have hqi : (v : Int) / (P : Int) = (q : Int) := by rw [← hq]; simp
      have hqt : (v : Int).tdiv (P : Int) = (q : Int) := by rw [Int.tdiv_eq_ediv_of_nonneg (by omega), hqi]
      obtain ⟨mm, hmm⟩ : ∃ mm, q * iv = mm := ⟨_, rfl⟩
      rw [hmm] at hst
      have hmi : (q : Int) * (iv : Int) = (mm : Int) := by rw [← hmm]; simp
      have hmb : mm ≤ 65535 * 65535 := by rw [← hmm]; exact Nat.mul_le_mul (by omega) (by omega)
      obtain ⟨kk, hkk⟩ : ∃ kk, mm % p = kk := ⟨_, rfl⟩
      rw [hkk] at hst
      have hkki : (mm : Int) % (p : Int) = (kk : Int) := by rw [← hkk]; simp
      have hkkt : (mm : Int).tmod (p : Int) = (kk : Int) := by rw [Int.tmod_eq_emod_of_nonneg (by omega), hkki]
      have hkkp : kk < p := by rw [← hkk]; exact Nat.mod_lt _ (by omega)
      obtain ⟨t, ht⟩ : ∃ t, (p - kk) % p = t := ⟨_, rfl⟩
      rw [ht] at hst
      have hti : ((p : Int) - (kk : Int)) % (p : Int) = (t : Int) := by
        rw [← ht, Int.natCast_emod, Int.natCast_sub (by omega)]
      have htt : ((p : Int) - (kk : Int)).tmod (p : Int) = (t : Int) := by rw [Int.tmod_eq_emod_of_nonneg (by omega), hti]
      have htp : t < p := by rw [← ht]; exact Nat.mod_lt _ (by omega)
      obtain ⟨tp, htpe⟩ : ∃ tp, t * P = tp := ⟨_, rfl⟩
      rw [htpe] at hst
      have htpi : (t : Int) * (P : Int) = (tp : Int) := by rw [← htpe]; simp
      have hx2 : x + tp < P2 := by
        have := hst.1
        rwa [hP2e] at this
      have HST := Lib.hid hst
      have HP2E := Lib.hid hP2e
      have hp0 : ¬ p = 0 := by omega
      have hP0 : ¬ P = 0 := by omega
      have g1 : decide ((P : Int) < (M : Int)) = true := decide_eq_true (by omega)
      clear hst hP2 hP2e hv hq hmm hkk ht htpe
      go_wp2_with (go_at_call 57; refine HVX.out.mono ?_; rintro e w' ⟨rfl, hw⟩; subst hw)
      go_round
      case rel => exact ⟨x + tp, P2, i + 1, by go_num, rfl, by omega, hilt, HP2E.out, hP2M, HST.out⟩
      case measure => simp only [intOf]; omega
    · have g1 : decide ((P : Int) < (M : Int)) = false := decide_eq_false (by omega)
      have hke : i = k := by
        rcases Nat.lt_or_ge i k with h | h
        · exfalso
          have h2 : p ^ i < p ^ k := Nat.pow_lt_pow_right (by omega) h
          rw [HPI.out, HM.out] at h2
          omega
        · omega
      have HX : Hid (Lf a n p k root x) := Lib.hid (by rw [← hke]; exact HLF.out)
      clear hke
      go_wp2
      go_ret2
      exact ⟨hb12, .inr (.inr (.inr ⟨HPL.out, HL.out, HPRE.out, x, by rw [Int.toNat_natCast]; exact HX.out, rfl⟩))⟩
end Go.Proofs.Ytcnkddoipmaddaa

namespace Go.Proofs.Ytcnkddoipmaddaa
open Go.RowKit
set_option linter.unusedVariables false

def dimF (n : Int) : Prop := n = 2 ∨ n = 4 ∨ n = 8 ∨ n = 16 ∨ n = 32
theorem dimF_bools {n : Nat} (hd : dimF (n : Int)) : ((n : Int) == 2) = true ∨ (((n : Int) == 2) = false ∧ ((n : Int) == 4) = true) ∨ (((n : Int) == 2) = false ∧ ((n : Int) == 4) = false ∧ ((n : Int) == 8) = true) ∨ (((n : Int) == 2) = false ∧ ((n : Int) == 4) = false ∧ ((n : Int) == 8) = false ∧ ((n : Int) == 16) = true) ∨ (((n : Int) == 2) = false ∧ ((n : Int) == 4) = false ∧ ((n : Int) == 8) = false ∧ ((n : Int) == 16) = false ∧ ((n : Int) == 32) = true) := by
  unfold dimF at hd
  simp only [beq_iff_eq, beq_eq_false_iff_ne]
  omega
theorem dimF_nat {n : Int} (hd : dimF n) : ∃ k : Nat, n = (k : Int) ∧ 2 ≤ k ∧ k ≤ 32 := by
  unfold dimF at hd
  exact ⟨n.toNat, by omega, by omega, by omega⟩
theorem odd16 : ∀ x, x < 64 → x % 2 = 1 → x ^ 16 % 64 = 1 := by decide +kernel
/-- the order of an odd number modulo 2 n divides 16 -/
theorem deg_16 {n p : Nat} (hn : dimF (n : Int)) (hp : p % 2 = 1) : p ^ 16 % (2 * n) = 1 := by
  have h1 := odd16 (p % 64) (Nat.mod_lt _ (by omega)) (by omega)
  rw [← Nat.pow_mod] at h1
  unfold dimF at hn
  have hd : 2 * n ∣ 64 := by
    have : n = 2 ∨ n = 4 ∨ n = 8 ∨ n = 16 ∨ n = 32 := by omega
    rcases this with rfl | rfl | rfl | rfl | rfl <;> decide
  rw [← Nat.mod_mod_of_dvd _ hd, h1]
  have : n = 2 ∨ n = 4 ∨ n = 8 ∨ n = 16 ∨ n = 32 := by omega
  rcases this with rfl | rfl | rfl | rfl | rfl <;> rfl
/-- the degree: the least d from 1 on -/
def Dg (n p d : Nat) : Prop := 1 ≤ d ∧ p ^ d % (2 * n) = 1 ∧ ∀ e, 1 ≤ e → e < d → p ^ e % (2 * n) ≠ 1
theorem Dg.le {n p d : Nat} (h : Dg n p d) (hn : dimF (n : Int)) (hp : p % 2 = 1) : d ≤ 16 := by
  rcases Nat.lt_or_ge 16 d with h1 | h1
  · exact absurd (deg_16 hn hp) (h.2.2 16 (by omega) h1)
  · exact h1
theorem pr_odd {p : Nat} (h : Mr.Pr p) (h3 : 3 ≤ p) : p % 2 = 1 := by
  rcases Nat.mod_two_eq_zero_or_one p with h1 | h1
  · rcases h.2 2 (Nat.dvd_of_mod_eq_zero h1) with h2 | h2 <;> omega
  · exact h1
def DgOk (n : Int) (p : Nat) : Prop := dimF n ∧ Pl p 1
def RetDg (w : World) (n : Int) (p : Nat) (e : Ending) (w' : World) : Prop :=
  Below w.heap.size w w' ∧ ((¬ DgOk n p ∧ e = .returned (.tuple #[.int .i64 0, .int .i64 2])) ∨ (DgOk n p ∧ ∃ d : Nat, Dg n.toNat p d ∧ e = .returned (.tuple #[.int .i64 (d : Int), .int .i64 0])))

set_option maxRecDepth 100000 in
set_option maxHeartbeats 2000000 in
theorem degree_any (n : Int) (p : Nat) (w : World) (hp : p ≤ 4294967295) : Calls Try.prog 44 #[.int .i64 n, .int .u32 p] w (RetDg w n p) := by
  by_cases hd : dimF n
  rotate_left
  · have HN : Hid (¬ DgOk n p) := Lib.hid fun h2 => hd h2.1
    unfold dimF at hd
    have q1 : (n == 2) = false := by simp; omega
    have q2 : (n == 4) = false := by simp; omega
    have q3 : (n == 8) = false := by simp; omega
    have q4 : (n == 16) = false := by simp; omega
    have q5 : (n == 32) = false := by simp; omega
    clear hd
    go_enter Try.func44, Try.ntmps44
    go_wp2
    go_ret2
    exact ⟨Below.refl _ _, .inl ⟨HN.out, rfl⟩⟩
  obtain ⟨k, rfl, hk2, hk32⟩ := dimF_nat hd
  have HP := Lib.hid (plain_any p 1 w hp (by omega))
  have HD := Lib.hid hd
  have hcs := dimF_bools hd
  clear hd
  rcases hcs with d1 | ⟨d1, d2⟩ | ⟨d1, d2, d3⟩ | ⟨d1, d2, d3, d4⟩ | ⟨d1, d2, d3, d4, d5⟩
  all_goals
    go_enter Try.func44, Try.ntmps44
    go_wp2_with fail
    (with_reducible refine HP.out.mono ?_)
    rintro e w1 ⟨hb1, hh⟩
    rcases hh with ⟨hpl, rfl⟩ | ⟨hpl, rfl⟩
    rotate_left
    · have HN : Hid (¬ DgOk (k : Int) p) := Lib.hid fun h2 => hpl h2.2
      clear hpl
      go_wp2_with fail
      go_ret2
      exact ⟨hb1, .inl ⟨HN.out, rfl⟩⟩
    have hp3 := hpl.1
    have hp6 := hpl.2.1
    have HODD := Lib.hid (pr_odd hpl.2.2.1 hpl.1)
    have HPL := Lib.hid hpl
    obtain ⟨x0, hx0⟩ : ∃ x0, p % (2 * k) = x0 := ⟨_, rfl⟩
    have hx0i : (p : Int) % (2 * (k : Int)) = (x0 : Int) := by rw [← hx0]; simp
    have hx0t : (p : Int).tmod (2 * (k : Int)) = (x0 : Int) := by rw [Int.tmod_eq_emod_of_nonneg (by omega), hx0i]
    have hx0b : x0 < 2 * k := by rw [← hx0]; exact Nat.mod_lt _ (by omega)
    have HX0 := Lib.hid hx0
    clear hpl hx0
    go_wp2
    go_quiet (fail)
    go_wp2
    go_loopw [8, 9] (fun D X wr => ∃ d x : Nat, D = .int .i64 (d : Int) ∧ X = .int .u32 (x : Int) ∧ 1 ≤ d ∧ d ≤ 16 ∧ x < 2 * k ∧ p ^ d % (2 * k) = x ∧ (∀ e, 1 ≤ e → e < d → p ^ e % (2 * k) ≠ 1) ∧ Below w.heap.size w wr) (fun D _ _ => 17 - (intOf D).toNat)
    case atStart => exact ⟨1, x0, rfl, rfl, Nat.le_refl _, by omega, hx0b, by rw [Nat.pow_one, HX0.out], fun e h1 h2 => by omega, below_drewN hb1 _⟩
    case round =>
      obtain ⟨d, x, rfl, rfl, hd1, hd16, hxb, hpx, hno, hbr⟩ := hrel
      have HPX := Lib.hid hpx
      have HNO := Lib.hid hno
      clear hpx hno
      by_cases hx1 : x = 1
      · have e1 : ((x : Int) != 1) = false := by simp; omega
        have HDG : Hid (Dg (k : Int).toNat p d) := Lib.hid (by rw [Int.toNat_natCast]; exact ⟨hd1, HPX.out.trans hx1, HNO.out⟩)
        clear hx1
        go_wp2
        go_ret2
        exact ⟨hbr, .inr ⟨⟨HD.out, HPL.out⟩, d, HDG.out, rfl⟩⟩
      · have e1 : ((x : Int) != 1) = true := by simp; omega
        have hdlt : d < 16 := by
          rcases Nat.lt_or_ge d 16 with h | h
          · exact h
          · exfalso
            have h16 := deg_16 HD.out HODD.out
            rw [show 16 = d by omega, HPX.out] at h16
            exact hx1 h16
        obtain ⟨mm, hmm⟩ : ∃ mm, x * x0 = mm := ⟨_, rfl⟩
        have hmi : (x : Int) * (x0 : Int) = (mm : Int) := by rw [← hmm]; simp
        have hmb : mm ≤ 64 * 64 := by rw [← hmm]; exact Nat.mul_le_mul (by omega) (by omega)
        obtain ⟨x2, hx2⟩ : ∃ x2, mm % (2 * k) = x2 := ⟨_, rfl⟩
        have hx2i : (mm : Int) % (2 * (k : Int)) = (x2 : Int) := by rw [← hx2]; simp
        have hx2t : (mm : Int).tmod (2 * (k : Int)) = (x2 : Int) := by rw [Int.tmod_eq_emod_of_nonneg (by omega), hx2i]
        have hx2b : x2 < 2 * k := by rw [← hx2]; exact Nat.mod_lt _ (by omega)
        have HNX : Hid (p ^ (d + 1) % (2 * k) = x2 ∧ ∀ e, 1 ≤ e → e < d + 1 → p ^ e % (2 * k) ≠ 1) := Lib.hid ⟨by rw [Nat.pow_succ, Nat.mul_mod, HPX.out, HX0.out, hmm, hx2], fun e h1 h2 => by
          rcases Nat.lt_or_ge e d with h | h
          · exact HNO.out e h1 h
          · rw [show e = d by omega, HPX.out]; exact hx1⟩
        clear hx1 hmm hx2
        go_wp2
        try go_quiet (fail)
        try go_wp2
        go_roundw
        case rel => exact ⟨d + 1, x2, by go_num, rfl, by omega, by omega, hx2b, HNX.out.1, HNX.out.2, by first | exact hbr | exact below_drewN hbr _⟩
        case measure => simp only [intOf]; omega
end Go.Proofs.Ytcnkddoipmaddaa
