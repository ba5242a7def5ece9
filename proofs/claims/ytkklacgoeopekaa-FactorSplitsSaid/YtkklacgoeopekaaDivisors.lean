/- Hensel: a simple root modulo p lifts in one way to a root modulo p^r. -/
/- The contract of factor.value: a polynomial's value and its derivative's, modulo m; slices of signed numbers. -/
/- The contract of factor.Lift. -/
/- Plain: the list of the primes that divide a number, with their exponents; trial division. No program in sight. -/
/- Plain: the primes of a number by its list; the test of one candidate for a root; the least element of an order. No program in sight. -/
/- The iterator divisors of modular.Factors: its contract. -/
import Derived.Test.YtkklacgoeopekaaFft
import Derived.Test.YtkklacgoeopekaaAlg
import Derived.Test.YtkklacgoeopekaaGcdPlain
import Derived.Test.YtkklacgoeopekaaRet
namespace Go.Proofs.Ytkklacgoeopekaa
set_option linter.unusedVariables false

/-- the value and the derivative of a polynomial with n coefficients -/
def pv (a : Nat → Int) (n : Nat) (x : Int) : Int := zsum (fun i => a i * x ^ i) n
def dv (a : Nat → Int) (n : Nat) (x : Int) : Int := zsum (fun i => a i * ((i : Int) * x ^ (i - 1))) n
theorem taylor1 (x h : Int) : ∀ i : Nat, ∃ k, (x + h) ^ i = x ^ i + (i : Int) * x ^ (i - 1) * h + h * h * k
  | 0 => ⟨0, by simp⟩
  | 1 => ⟨0, by rw [Int.pow_succ, Int.pow_zero, Int.pow_succ, Int.pow_zero]; simp⟩
  | i + 2 => by
    obtain ⟨k, hk⟩ := taylor1 x h (i + 1)
    refine ⟨k * (x + h) + ((i + 1 : Nat) : Int) * x ^ i, ?_⟩
    rw [Int.pow_succ (x + h), hk]
    rw [show i + 1 - 1 = i by omega, show i + 2 - 1 = i + 1 by omega, Int.pow_succ x (i + 1), Int.pow_succ x i]
    rw [show ((i + 2 : Nat) : Int) = ((i + 1 : Nat) : Int) + 1 by omega]
    grind
theorem taylor (a : Nat → Int) (x h : Int) : ∀ n : Nat, ∃ k, pv a n (x + h) = pv a n x + h * dv a n x + h * h * k
  | 0 => ⟨0, by simp [pv, dv, zsum]⟩
  | n + 1 => by
    obtain ⟨k, hk⟩ := taylor a x h n
    obtain ⟨k2, hk2⟩ := taylor1 x h n
    refine ⟨k + a n * k2, ?_⟩
    unfold pv dv at hk ⊢
    simp only [zsum]
    rw [hk, hk2]
    grind
theorem pv_cg {q : Nat} (a : Nat → Int) (n : Nat) {x y : Int} (h : Cg q x y) : Cg q (pv a n x) (pv a n y) := Cg.sum n fun i _ => (Cg.refl _ _).mul (h.pow i)
theorem dv_cg {q : Nat} (a : Nat → Int) (n : Nat) {x y : Int} (h : Cg q x y) : Cg q (dv a n x) (dv a n y) := Cg.sum n fun i _ => (Cg.refl _ _).mul ((Cg.refl _ _).mul (h.pow _))
/-- one step: x + t P is a root modulo P p just for one t modulo p -/
theorem step_cg {p P : Nat} (hP : p ∣ P) (a : Nat → Int) (n : Nat) (x t : Int) : Cg (P * p) (pv a n (x + t * P)) (pv a n x + t * P * dv a n x) := by
  obtain ⟨k, hk⟩ := taylor a x (t * P) n
  obtain ⟨c, hc⟩ := hP
  rw [hk]
  refine ⟨t * t * c * k, ?_⟩
  have h1 : (P : Int) = (p : Int) * (c : Int) := by rw [hc]; simp
  rw [show (((P * p : Nat) : Nat) : Int) = (P : Int) * (p : Int) by simp]
  grind
theorem cg_scale {p P : Nat} (hP : 0 < P) {x : Int} : Cg (P * p) (P * x) 0 ↔ Cg p x 0 := by
  unfold Cg
  rw [Int.sub_zero, Int.sub_zero, show (((P * p : Nat) : Nat) : Int) = (P : Int) * (p : Int) by simp]
  constructor
  · rintro ⟨c, hc⟩
    refine ⟨c, ?_⟩
    have : (P : Int) * x = (P : Int) * ((p : Int) * c) := by rw [hc]; grind
    exact Int.eq_of_mul_eq_mul_left (by omega) this
  · rintro ⟨c, hc⟩
    exact ⟨c, by rw [hc]; grind⟩
/-- two lifts of one root agree modulo P p -/
theorem lift_uniq {p P : Nat} (hp : Mr.Pr p) (hP : p ∣ P) (hP0 : 0 < P) (a : Nat → Int) (n : Nat) {x t u : Int} (hd : ¬ Cg p (dv a n x) 0)
    (h1 : Cg (P * p) (pv a n (x + t * P)) 0) (h2 : Cg (P * p) (pv a n (x + u * P)) 0) : Cg p t u := by
  have e1 := (step_cg hP a n x t).symm.trans h1
  have e2 := (step_cg hP a n x u).symm.trans h2
  have e3 := e1.sub e2
  rw [show pv a n x + t * P * dv a n x - (pv a n x + u * P * dv a n x) = P * (dv a n x * (t - u)) by grind, Int.sub_zero] at e3
  have e4 := (cg_scale hP0).1 e3
  have e5 := Cg.cancel hp e4 hd
  have := e5.add (Cg.refl p u)
  rwa [show t - u + u = t by omega, Int.zero_add] at this
/-- a lift: v = f(x) modulo P p, v = P w, and t d = -w modulo p -/
theorem lift_is {p P : Nat} (hP : p ∣ P) (hP0 : 0 < P) (a : Nat → Int) (n : Nat) {x t w : Int} (hv : Cg (P * p) (pv a n x) (P * w)) (ht : Cg p (w + t * dv a n x) 0) : Cg (P * p) (pv a n (x + t * P)) 0 := by
  refine (step_cg hP a n x t).trans ?_
  have e1 := hv.add (Cg.refl (P * p) (t * P * dv a n x))
  refine e1.trans ?_
  rw [show (P : Int) * w + t * P * dv a n x = P * (w + t * dv a n x) by grind]
  exact (cg_scale hP0).2 ht
end Go.Proofs.Ytkklacgoeopekaa

namespace Go.Proofs.Ytkklacgoeopekaa
open Go.RowKit
set_option linter.unusedVariables false

/-- a slice of signed 64 bit numbers that reads as f -/
def Si (w : World) (lo hi : Nat) (A : Option Addr) (n : Nat) (f : Nat → Int) : Prop :=
  (∀ j, n ≤ j → f j = 0) ∧ (0 < n → ∃ b off, A = some ⟨b, off, none⟩ ∧ lo ≤ b ∧ b < hi ∧ ∀ j, j < n → w.cell? ⟨b, off + j, none⟩ = some (.int .i64 (f j)))
theorem Si.below {w w' : World} {lo hi B n : Nat} {A : Option Addr} {f : Nat → Int} (h : Si w lo hi A n f) (hb : Below B w w') (hB : hi ≤ B) : Si w' lo hi A n f :=
  ⟨h.1, fun hn => by
    obtain ⟨b, off, e, h1, h2, h3⟩ := h.2 hn
    exact ⟨b, off, e, h1, h2, fun j hj => (hb.cell (p := ⟨b, off + j, none⟩) (by show b < B; omega)).trans (h3 j hj)⟩⟩

theorem pv_shift (a : Nat → Int) (i k : Nat) (x : Int) : pv (fun j => a (i + j)) (k + 1) x = a i + x * pv (fun j => a (i + 1 + j)) k x := by
  unfold pv
  rw [Nat.add_comm k 1, zsum_more, ← zsum_mul_left]
  simp only [zsum, Nat.add_zero, Int.pow_zero, Int.mul_one, Int.zero_add]
  congr 1
  refine zsum_congr k fun j _ => ?_
  rw [show i + (1 + j) = i + 1 + j by omega, show 1 + j = j + 1 by omega, Int.pow_succ]
  grind
theorem dv_shift (a : Nat → Int) (i k : Nat) (x : Int) : dv (fun j => a (i + j)) (k + 1) x = pv (fun j => a (i + 1 + j)) k x + x * dv (fun j => a (i + 1 + j)) k x := by
  unfold pv dv
  rw [Nat.add_comm k 1, zsum_more, ← zsum_mul_left, ← zsum_add]
  simp only [zsum]
  rw [show (((0 : Nat) : Int)) = 0 by rfl, Int.zero_mul, Int.mul_zero, Int.add_zero, Int.zero_add]
  refine zsum_congr k fun j _ => ?_
  rw [show i + (1 + j) = i + 1 + j by omega, show 1 + j - 1 = j by omega, show ((1 + j : Nat) : Int) = (j : Int) + 1 by omega]
  cases j with
  | zero => simp
  | succ t =>
    rw [show t + 1 - 1 = t by omega, Int.pow_succ]
    grind
/-- the value and the derivative, as residues -/
def vN (a : Nat → Int) (n x m : Nat) : Nat := (pv a n x % (m : Int)).toNat
def dN (a : Nat → Int) (n x m : Nat) : Nat := (dv a n x % (m : Int)).toNat
theorem toNat_cg {m : Nat} (hm : 0 < m) (z : Int) : Cg m ((((z % (m : Int)).toNat : Nat)) : Int) z := by
  rw [Int.toNat_of_nonneg (Int.emod_nonneg _ (by omega))]
  exact Cg.mod z
theorem toNat_lt {m : Nat} (hm : 0 < m) (z : Int) : (z % (m : Int)).toNat < m := by
  have h1 := Int.emod_nonneg z (show (m : Int) ≠ 0 by omega)
  have h2 := Int.emod_lt_of_pos z (show (0 : Int) < m by omega)
  omega
theorem eq_vN {a : Nat → Int} {n x m v : Nat} (hv : v < m) (h : Cg m (v : Int) (pv a n x)) : v = vN a n x m :=
  Cg.eq_nat (h.trans (toNat_cg (by omega) _).symm) hv (toNat_lt (by omega) _)
theorem eq_dN {a : Nat → Int} {n x m v : Nat} (hv : v < m) (h : Cg m (v : Int) (dv a n x)) : v = dN a n x m :=
  Cg.eq_nat (h.trans (toNat_cg (by omega) _).symm) hv (toNat_lt (by omega) _)

set_option maxRecDepth 100000 in
set_option maxHeartbeats 2000000 in
theorem value_any (n c x m lo hi : Nat) (A : Option Addr) (a : Nat → Int) (w : World) (ha : Si w lo hi A n a) (hn : n ≤ 1000000) (hx : x ≤ 2147483647) (hm2 : 2 ≤ m) (hm : m ≤ 2147483647) :
    Calls Try.prog 36 #[.slice A n c, .int .u64 (x : Int), .int .u64 (m : Int)] w (RetP w (.tuple #[.int .u64 ((vN a n x m : Nat) : Int), .int .u64 ((dN a n x m : Nat) : Int)])) := by
  have HA := Lib.hid ha
  have hm0 : ¬ m = 0 := by omega
  clear ha
  go_enter Try.func36, Try.ntmps36
  go_wp2
  go_loop [6, 7, 8] (fun V D I => ∃ (k v d : Nat) (z : Int), k ≤ n ∧ I = .int .i64 z ∧ z = (k : Int) - 1 ∧ V = .int .u64 (v : Int) ∧ D = .int .u64 (d : Int) ∧ v < m ∧ d < m ∧ Cg m (v : Int) (pv (fun j => a (k + j)) (n - k) x) ∧ Cg m (d : Int) (dv (fun j => a (k + j)) (n - k) x)) (fun _ _ I => (intOf I + 1).toNat)
  case atStart => exact ⟨n, 0, 0, _, Nat.le_refl _, rfl, by go_num, rfl, rfl, by omega, by omega, by rw [Nat.sub_self]; exact Cg.refl _ _, by rw [Nat.sub_self]; exact Cg.refl _ _⟩
  case round =>
    obtain ⟨k, v, d, z, hkn, rfl, hz, rfl, rfl, hvm, hdm, hv, hd⟩ := hrel
    have HV := Lib.hid hv
    have HD := Lib.hid hd
    clear hv hd
    rcases k with _ | k
    · have e1 : decide (z ≥ 0) = false := decide_eq_false (by omega)
      have e2 : decide (0 ≤ z) = false := decide_eq_false (by omega)
      have HE : Hid (v = vN a n x m ∧ d = dN a n x m) := Lib.hid (by
        have h1 := HV.out
        have h2 := HD.out
        simp only [Nat.zero_add, Nat.sub_zero] at h1 h2
        exact ⟨eq_vN hvm h1, eq_dN hdm h2⟩)
      clear hz
      go_wp2
      go_ret2
      exact ⟨by rw [← HE.out.1, ← HE.out.2]; rfl, rfl⟩
    · obtain rfl : z = (k : Int) := by omega
      have e1 : decide ((k : Int) ≥ 0) = true := decide_eq_true (by omega)
      have e2 : decide (0 ≤ (k : Int)) = true := decide_eq_true (by omega)
      obtain ⟨g, off, hAe, _, hg, hcell⟩ := HA.out.2 (by omega)
      have k1 := hcell k (by omega)
      obtain ⟨y, hy⟩ : ∃ y, a k = y := ⟨_, rfl⟩
      rw [hy] at k1
      rw [hAe]
      have b1 : 0 ≤ (k : Int) := by omega
      have b2 : (k : Int) < (n : Int) := by omega
      obtain ⟨mm, hmm⟩ : ∃ mm, d * x = mm := ⟨_, rfl⟩
      have hmi : (d : Int) * (x : Int) = (mm : Int) := by rw [← hmm]; simp
      have hmb : mm ≤ 2147483647 * 2147483647 := by rw [← hmm]; exact Nat.mul_le_mul (by omega) hx
      obtain ⟨d2, hd2⟩ : ∃ d2, (mm + v) % m = d2 := ⟨_, rfl⟩
      have hd2i : ((mm : Int) + (v : Int)) % (m : Int) = (d2 : Int) := by rw [← hd2]; simp
      have hd2t : ((mm : Int) + (v : Int)).tmod (m : Int) = (d2 : Int) := by rw [Int.tmod_eq_emod_of_nonneg (by omega), hd2i]
      have hd2m : d2 < m := by rw [← hd2]; exact Nat.mod_lt _ (by omega)
      obtain ⟨m2, hm2'⟩ : ∃ m2, v * x = m2 := ⟨_, rfl⟩
      have hm2i : (v : Int) * (x : Int) = (m2 : Int) := by rw [← hm2']; simp
      have hm2b : m2 ≤ 2147483647 * 2147483647 := by rw [← hm2']; exact Nat.mul_le_mul (by omega) hx
      obtain ⟨t, ht⟩ : ∃ t, y.tmod (m : Int) = t := ⟨_, rfl⟩
      have ht1 : -(m : Int) < t ∧ t < (m : Int) := by
        rw [← ht]
        have h1 := Int.tmod_lt_of_pos y (show (0 : Int) < m by omega)
        have h2 := Int.lt_tmod_of_pos y (show (0 : Int) < m by omega)
        omega
      have htc : Cg m t y := by
        refine ⟨-(y.tdiv m), ?_⟩
        have := Int.mul_tdiv_add_tmod y m
        rw [ht] at this
        grind
      obtain ⟨u, hu, hum, huc⟩ : ∃ u : Nat, (t < 0 → t + (m : Int) = (u : Int)) ∧ (u < m) ∧ (¬ t < 0 → t = (u : Int)) := by
        by_cases h : t < 0
        · exact ⟨(t + m).toNat, fun _ => by omega, by omega, fun h2 => absurd h h2⟩
        · exact ⟨t.toNat, fun h2 => absurd h2 h, by omega, fun _ => by omega⟩
      have hucg : Cg m (u : Int) y := by
        by_cases h : t < 0
        · rw [← hu h]
          exact Cg.trans ⟨1, by omega⟩ htc
        · rw [← huc h]
          exact htc
      obtain ⟨v2, hv2⟩ : ∃ v2, (m2 + u) % m = v2 := ⟨_, rfl⟩
      have hv2i : ((m2 : Int) + (u : Int)) % (m : Int) = (v2 : Int) := by rw [← hv2]; simp
      have hv2t : ((m2 : Int) + (u : Int)).tmod (m : Int) = (v2 : Int) := by rw [Int.tmod_eq_emod_of_nonneg (by omega), hv2i]
      have hv2m : v2 < m := by rw [← hv2]; exact Nat.mod_lt _ (by omega)
      have hnx : Cg m (v2 : Int) (pv (fun j => a (k + j)) (n - k) x) ∧ Cg m (d2 : Int) (dv (fun j => a (k + j)) (n - k) x) := by
        rw [show n - k = n - (k + 1) + 1 by omega, pv_shift, dv_shift, hy, ← hv2, ← hd2]
        refine ⟨(Cg.modN _).trans ?_, (Cg.modN _).trans ?_⟩
        · rw [show ((m2 + u : Nat) : Int) = (u : Int) + (x : Int) * (v : Int) by rw [← hm2']; simp; grind]
          exact hucg.add ((Cg.refl _ _).mul HV.out)
        · rw [show ((mm + v : Nat) : Int) = (v : Int) + (x : Int) * (d : Int) by rw [← hmm]; simp; grind]
          exact HV.out.add ((Cg.refl _ _).mul HD.out)
      have HNX := Lib.hid hnx
      clear hcell hy hAe hmm hd2 hm2' htc hucg hv2 hnx hz
      by_cases hneg : t < 0
      · have hu' := hu hneg
        have e3 : decide (t < 0) = true := decide_eq_true hneg
        clear hu huc
        go_wp2
        go_round
        case rel => exact ⟨k, v2, d2, _, by omega, rfl, by go_num, rfl, rfl, hv2m, hd2m, HNX.out.1, HNX.out.2⟩
        case measure => simp only [intOf]; omega
      · have hu' := huc hneg
        have e3 : decide (t < 0) = false := decide_eq_false hneg
        clear hu huc
        subst hu'
        go_wp2
        go_round
        case rel => exact ⟨k, v2, d2, _, by omega, rfl, by go_num, rfl, rfl, hv2m, hd2m, HNX.out.1, HNX.out.2⟩
        case measure => simp only [intOf]; omega
end Go.Proofs.Ytkklacgoeopekaa

namespace Go.Proofs.Ytkklacgoeopekaa
open Go.RowKit
set_option linter.unusedVariables false

/-- the root modulo p^r above a simple root modulo p -/
def Lf (a : Nat → Int) (n p : Nat) (r : Nat) (root x : Nat) : Prop := x < p ^ r ∧ x % p = root ∧ Cg (p ^ r) (pv a n x) 0
def LfPre (a : Nat → Int) (n p root : Nat) : Prop := vN a n root p = 0 ∧ dN a n root p ≠ 0
/-- what Lift leaves -/
def RetLf (w : World) (a : Nat → Int) (n p : Nat) (r : Int) (root : Nat) (e : Ending) (w' : World) : Prop :=
  Below w.heap.size w w' ∧ ((¬ (Pl p r ∧ root < p) ∧ e = .returned (.tuple #[.int .u32 0, .int .i64 2])) ∨ ((Pl p r ∧ root < p) ∧ 256 < n ∧ e = .returned (.tuple #[.int .u32 0, .int .i64 3])) ∨ ((Pl p r ∧ root < p) ∧ n ≤ 256 ∧ ¬ LfPre a n p root ∧ e = .returned (.tuple #[.int .u32 0, .int .i64 4])) ∨
    ((Pl p r ∧ root < p) ∧ n ≤ 256 ∧ LfPre a n p root ∧ ∃ x : Nat, Lf a n p r.toNat root x ∧ e = .returned (.tuple #[.int .u32 (x : Int), .int .i64 0])))
theorem vN_cg {a : Nat → Int} {n x m : Nat} (hm : 0 < m) : Cg m ((vN a n x m : Nat) : Int) (pv a n x) := toNat_cg hm _
theorem dN_cg {a : Nat → Int} {n x m : Nat} (hm : 0 < m) : Cg m ((dN a n x m : Nat) : Int) (dv a n x) := toNat_cg hm _
theorem vN_lt {a : Nat → Int} {n x m : Nat} (hm : 0 < m) : vN a n x m < m := toNat_lt hm _
theorem dN_lt {a : Nat → Int} {n x m : Nat} (hm : 0 < m) : dN a n x m < m := toNat_lt hm _
/-- one step of the lift, in numbers -/
theorem lift_step {a : Nat → Int} {n p i root x inv : Nat} (hp : Mr.Pr p) (hi : 1 ≤ i) (hinv : inv * dN a n root p % p = 1 % p) (h : Lf a n p i root x) :
    Lf a n p (i + 1) root (x + (p - vN a n x (p ^ i * p) / p ^ i * inv % p) % p * p ^ i) := by
  obtain ⟨h1, h2, h3⟩ := h
  have hp2 := hp.1
  have hP0 : 0 < p ^ i := Nat.pow_pos (by omega)
  have hPp : p ∣ p ^ i := ⟨p ^ (i - 1), by rw [Nat.mul_comm, ← Nat.pow_succ]; congr 1; omega⟩
  obtain ⟨P, hP⟩ : ∃ P, p ^ i = P := ⟨_, rfl⟩
  rw [hP] at h1 h3 hP0 hPp
  have hmp : p ^ (i + 1) = P * p := by rw [Nat.pow_succ, hP]
  unfold Lf
  rw [hmp, hP]
  have hPP : 0 < P * p := Nat.mul_pos hP0 (by omega)
  obtain ⟨v, hv⟩ : ∃ v, vN a n x (P * p) = v := ⟨_, rfl⟩
  have hvc : Cg (P * p) (v : Int) (pv a n x) := by rw [← hv]; exact vN_cg hPP
  have hvP : P ∣ v := by
    have e1 : Cg P (v : Int) (pv a n x) := by
      obtain ⟨c, hc⟩ := hvc
      exact ⟨(p : Int) * c, by rw [hc]; simp; grind⟩
    have e2 := e1.trans h3
    unfold Cg at e2
    rw [Int.sub_zero] at e2
    exact Int.natCast_dvd_natCast.1 e2
  obtain ⟨w, hw⟩ := hvP
  rw [hv]
  have hdiv : v / P = w := by rw [hw, Nat.mul_comm, Nat.mul_div_cancel _ hP0]
  rw [hdiv]
  obtain ⟨t, ht⟩ : ∃ t, (p - w * inv % p) % p = t := ⟨_, rfl⟩
  rw [ht]
  have htp : t < p := by rw [← ht]; exact Nat.mod_lt _ (by omega)
  have hsize : x + t * P < P * p := by
    have : t * P ≤ (p - 1) * P := Nat.mul_le_mul_right _ (by omega)
    have e : (p - 1) * P + P = P * p := by
      rw [Nat.mul_comm P p]
      have : p = (p - 1) + 1 := by omega
      calc (p - 1) * P + P = ((p - 1) + 1) * P := by rw [Nat.add_mul, Nat.one_mul]
        _ = p * P := by rw [← this]
    omega
  refine ⟨hsize, ?_, ?_⟩
  · obtain ⟨c, hc⟩ := hPp
    rw [hc, show t * (p * c) = p * (t * c) by rw [Nat.mul_left_comm], Nat.add_mul_mod_self_left, h2]
  · rw [show ((x + t * P : Nat) : Int) = (x : Int) + (t : Int) * (P : Int) by simp]
    refine lift_is (w := (w : Int)) hPp hP0 a n ?_ ?_
    · refine hvc.symm.trans (Cg.of_eq ?_)
      rw [hw]; simp
    · -- the slope at x is the slope at the root
      have hxr : Cg p (x : Int) (root : Int) := by
        rw [← h2]
        exact (Cg.modN x).symm
      have e1 := dv_cg a n hxr
      have e2 : Cg p ((dN a n root p : Nat) : Int) (dv a n root) := dN_cg (by omega)
      obtain ⟨D, hD⟩ : ∃ D, dN a n root p = D := ⟨_, rfl⟩
      rw [hD] at e2 hinv
      have e3 : Cg p ((inv : Int) * (D : Int)) 1 := by
        rw [← Int.natCast_mul]
        exact Cg.nat.2 hinv
      have e4 : Cg p (t : Int) (-((w : Int) * (inv : Int))) := by
        rw [← ht]
        refine (Cg.modN _).trans ?_
        have hl : w * inv % p ≤ p := by have := Nat.mod_lt (w * inv) (show 0 < p by omega); omega
        rw [Int.natCast_sub hl]
        have := (Cg.modN (q := p) (w * inv)).neg
        refine Cg.trans ⟨1, ?_⟩ (this.trans (Cg.of_eq (by simp)))
        omega
      have e5 := e4.mul (e1.trans e2.symm)
      have e6 := (Cg.refl p (w : Int)).add e5
      refine e6.trans ?_
      have e7 := (Cg.refl p (w : Int)).mul e3
      have e8 := (Cg.refl p (w : Int)).sub e7
      rw [show (w : Int) + -((w : Int) * (inv : Int)) * (D : Int) = (w : Int) - (w : Int) * ((inv : Int) * (D : Int)) by grind]
      refine e8.trans (Cg.of_eq (by omega))

set_option maxRecDepth 100000 in
set_option maxHeartbeats 4000000 in
theorem flift_any (n c p root lo hi : Nat) (r : Int) (A : Option Addr) (a : Nat → Int) (w : World) (ha : Si w lo hi A n a) (hn : n ≤ 9223372036854775807) (hp : p ≤ 4294967295) (hr : r ≤ 9223372036854775807) (hroot : root ≤ 4294967295) (hhi : hi ≤ w.heap.size) :
    Calls Try.prog 17 #[.slice A n c, .int .u32 (p : Int), .int .i64 r, .int .u32 (root : Int)] w (RetLf w a n p r root) := by
  have HP := Lib.hid (plain_any p r w hp hr)
  have HA := Lib.hid ha
  clear ha
  go_enter Try.func17, Try.ntmps17
  go_wp2_with fail
  (with_reducible refine HP.out.mono ?_)
  rintro e w1 ⟨hb1, hh⟩
  have hz1 := hb1.size
  rcases hh with ⟨hpl, rfl⟩ | ⟨hpl, rfl⟩
  rotate_left
  · have HN : Hid (¬ (Pl p r ∧ root < p)) := Lib.hid fun h => hpl h.1
    clear hpl
    go_wp2_with fail
    go_ret2
    exact ⟨hb1, .inl ⟨HN.out, rfl⟩⟩
  by_cases hrp : root < p
  rotate_left
  · have HN : Hid (¬ (Pl p r ∧ root < p)) := Lib.hid fun h => hrp h.2
    have e1 : decide ((root : Int) ≥ (p : Int)) = true := decide_eq_true (by omega)
    have e2 : decide (p ≤ root) = true := decide_eq_true (by omega)
    clear hpl hrp
    go_wp2_with fail
    go_ret2
    exact ⟨hb1, .inl ⟨HN.out, rfl⟩⟩
  have HPL : Hid (Pl p r ∧ root < p) := Lib.hid ⟨hpl, hrp⟩
  have e1 : decide ((root : Int) ≥ (p : Int)) = false := decide_eq_false (by omega)
  have e2 : decide (p ≤ root) = false := decide_eq_false (by omega)
  by_cases hlong : 256 < n
  · have e3 : decide ((n : Int) > 256) = true := decide_eq_true (by omega)
    have HL := Lib.hid hlong
    clear hpl hlong
    go_wp2_with fail
    go_ret2
    exact ⟨hb1, .inr (.inl ⟨HPL.out, HL.out, rfl⟩)⟩
  have e3 : decide ((n : Int) > 256) = false := decide_eq_false (by omega)
  have HL : Hid (n ≤ 256) := Lib.hid (by omega)
  have hp3 := hpl.1
  have hp6 := hpl.2.1
  have HPR := Lib.hid hpl.2.2.1
  obtain ⟨k, rfl⟩ : ∃ k : Nat, r = (k : Int) := ⟨r.toNat, by have := hpl.2.2.2.1; omega⟩
  have hk1 : 1 ≤ k := by have := hpl.2.2.2.1; omega
  have hM := hpl.2.2.2.2
  rw [Int.toNat_natCast] at hM ⊢
  obtain ⟨M, hMe⟩ : ∃ M, p ^ k = M := ⟨_, rfl⟩
  rw [hMe] at hM ⊢
  have HM := Lib.hid hMe
  have HV := Lib.hid (value_any n c root p lo hi A a w1 (HA.out.below hb1 hhi) (by omega) (by omega) (by omega) (by omega))
  have hvl : vN a n root p < p := vN_lt (by omega)
  have hdl : dN a n root p < p := dN_lt (by omega)
  obtain ⟨v0, hv0⟩ : ∃ v0, vN a n root p = v0 := ⟨_, rfl⟩
  obtain ⟨d0, hd0⟩ : ∃ d0, dN a n root p = d0 := ⟨_, rfl⟩
  rw [hv0, hd0] at HV
  rw [hv0] at hvl
  rw [hd0] at hdl
  have HV0 := Lib.hid hv0
  have HD0 := Lib.hid hd0
  have HINV := Lib.hid (inverse_any d0 p w1)
  clear hpl hMe hv0 hd0 hlong
  by_cases hpre : v0 = 0 ∧ d0 ≠ 0
  rotate_left
  · have HN : Hid (¬ LfPre a n p root) := Lib.hid fun h => hpre ⟨by rw [← HV0.out]; exact h.1, by rw [← HD0.out]; exact h.2⟩
    have hcase : v0 ≠ 0 ∨ (v0 = 0 ∧ d0 = 0) := by omega
    clear hpre
    rcases hcase with h1 | ⟨rfl, rfl⟩
    · have f1 : ((v0 : Int) != 0) = true := by simp; omega
      clear h1
      go_wp2_with (go_at_call 36; refine HV.out.mono ?_; rintro e w' ⟨rfl, hw⟩; subst hw)
      (with_reducible refine HINV.out.mono ?_)
      rintro e w2 ⟨hb2, rfl⟩
      have hb12 := hb1.trans (hb2.mono hz1)
      go_wp2_with fail
      go_ret2
      exact ⟨hb12, .inr (.inr (.inl ⟨HPL.out, HL.out, HN.out, rfl⟩))⟩
    · have hie : invE 0 p = (0, 4) := invE_none (fits_one.2 ⟨by omega, by omega, by omega⟩) (by rw [Nat.gcd_zero_right]; omega)
      have HIE := Lib.hid hie
      clear hie
      go_wp2_with (go_at_call 36; refine HV.out.mono ?_; rintro e w' ⟨rfl, hw⟩; subst hw)
      refine HINV.out.mono ?_
      rintro e w2 ⟨hb2, rfl⟩
      rw [HIE.out]
      have hb12 := hb1.trans (hb2.mono hz1)
      go_wp2_with fail
      go_ret2
      exact ⟨hb12, .inr (.inr (.inl ⟨HPL.out, HL.out, HN.out, rfl⟩))⟩
  obtain ⟨rfl, hd0⟩ := hpre
  have hg : Nat.gcd p d0 = 1 := HPR.out.coprime fun hd => by have := Nat.le_of_dvd (by omega) hd; omega
  have hie := invE_ok (fits_one.2 ⟨hdl, by omega, by omega⟩) hg
  have hsp := invN_spec hdl (by omega) hg
  obtain ⟨iv, hiv⟩ : ∃ iv, invN d0 p = iv := ⟨_, rfl⟩
  rw [hiv] at hie hsp
  have hivp := hsp.1
  have HSP : Hid (iv * dN a n root p % p = 1 % p) := Lib.hid (by rw [HD0.out]; exact hsp.2)
  have HIE := Lib.hid hie
  have HPRE : Hid (LfPre a n p root) := Lib.hid ⟨HV0.out, by rw [HD0.out]; exact hd0⟩
  have HLF1 : Hid (Lf a n p 1 root root) := Lib.hid (by
    refine ⟨by rw [Nat.pow_one]; exact hrp, Nat.mod_eq_of_lt hrp, ?_⟩
    rw [Nat.pow_one]
    have := vN_cg (a := a) (n := n) (x := root) (m := p) (by omega)
    rw [HV0.out] at this
    exact this.symm)
  clear hg hie hsp hiv
  go_wp2_with (go_at_call 36; refine HV.out.mono ?_; rintro e w' ⟨rfl, hw⟩; subst hw)
  (with_reducible refine HINV.out.mono ?_)
  rintro e w2 ⟨hb2, rfl⟩
  rw [HIE.out]
  have hb12 := hb1.trans (hb2.mono hz1)
  have HA2 := Lib.hid (HA.out.below hb12 hhi)
  go_wp2_with fail
  go_loop [16, 17] (fun X P => ∃ x P' i : Nat, X = .int .u64 (x : Int) ∧ P = .int .u64 (P' : Int) ∧ 1 ≤ i ∧ i ≤ k ∧ p ^ i = P' ∧ P' ≤ M ∧ Lf a n p i root x) (fun _ P => M - (intOf P).toNat)
  case atStart => exact ⟨root, p, 1, rfl, rfl, Nat.le_refl _, hk1, Nat.pow_one p, by rw [← HM.out]; exact Nat.le_trans (Nat.le_of_eq (Nat.pow_one p).symm) (Nat.pow_le_pow_right (by omega) hk1), HLF1.out⟩
  case round =>
    obtain ⟨x, P, i, rfl, rfl, hi1, hik, hPi, hPM, hlf⟩ := hrel
    have hxP : x < P := by rw [← hPi]; exact hlf.1
    have HLF := Lib.hid hlf
    have HPI := Lib.hid hPi
    clear hlf hPi
    by_cases hlt : P < M
    · have hilt : i < k := by
        rcases Nat.lt_or_ge i k with h | h
        · exact h
        · exfalso
          have := HPI.out
          have := HM.out
          rw [show i = k by omega] at *
          omega
      obtain ⟨P2, hP2⟩ : ∃ P2, P * p = P2 := ⟨_, rfl⟩
      have hP2e : p ^ (i + 1) = P2 := by rw [Nat.pow_succ, HPI.out, hP2]
      have hP2M : P2 ≤ M := by rw [← hP2e, ← HM.out]; exact Nat.pow_le_pow_right (by omega) hilt
      have hP2i : (P : Int) * (p : Int) = (P2 : Int) := by rw [← hP2]; simp
      have hP1 : 1 ≤ P := by omega
      have hPlt : P < P2 := by
        rw [← hP2]
        calc P = P * 1 := (Nat.mul_one P).symm
          _ < P * p := Nat.mul_lt_mul_of_pos_left (by omega) (by omega)
      have HVX := Lib.hid (value_any n c x P2 lo hi A a w2 HA2.out (by have := HL.out; omega) (by omega) (by omega) (by omega))
      have hst := lift_step (a := a) (n := n) HPR.out hi1 HSP.out HLF.out
      rw [HPI.out, hP2] at hst
      obtain ⟨v, hv⟩ : ∃ v, vN a n x P2 = v := ⟨_, rfl⟩
      rw [hv] at hst HVX
      have hvl : v < P2 := by rw [← hv]; exact vN_lt (by omega)
      obtain ⟨q, hq⟩ : ∃ q, v / P = q := ⟨_, rfl⟩
      rw [hq] at hst
      have hqp : q < p := by rw [← hq]; exact Nat.div_lt_of_lt_mul (by rw [hP2]; exact hvl)
      have hqi : (v : Int) / (P : Int) = (q : Int) := by rw [← hq]; simp
      have hqt : (v : Int).tdiv (P : Int) = (q : Int) := by rw [Int.tdiv_eq_ediv_of_nonneg (by omega), hqi]
      obtain ⟨mm, hmm⟩ : ∃ mm, q * iv = mm := ⟨_, rfl⟩
      rw [hmm] at hst
      have hmi : (q : Int) * (iv : Int) = (mm : Int) := by rw [← hmm]; simp
      have hmb : mm ≤ 65535 * 65535 := by rw [← hmm]; exact Nat.mul_le_mul (by omega) (by omega)
      obtain ⟨kk, hkk⟩ : ∃ kk, mm % p = kk := ⟨_, rfl⟩
      rw [hkk] at hst
      have hkki : (mm : Int) % (p : Int) = (kk : Int) := by rw [← hkk]; simp
      have hkkt : (mm : Int).tmod (p : Int) = (kk : Int) := by rw [Int.tmod_eq_emod_of_nonneg (by omega), hkki]
      have hkkp : kk < p := by rw [← hkk]; exact Nat.mod_lt _ (by omega)
      obtain ⟨t, ht⟩ : ∃ t, (p - kk) % p = t := ⟨_, rfl⟩
      rw [ht] at hst
      have hti : ((p : Int) - (kk : Int)) % (p : Int) = (t : Int) := by
        rw [← ht, Int.natCast_emod, Int.natCast_sub (by omega)]
      have htt : ((p : Int) - (kk : Int)).tmod (p : Int) = (t : Int) := by rw [Int.tmod_eq_emod_of_nonneg (by omega), hti]
      have htp : t < p := by rw [← ht]; exact Nat.mod_lt _ (by omega)
      obtain ⟨tp, htpe⟩ : ∃ tp, t * P = tp := ⟨_, rfl⟩
      rw [htpe] at hst
      have htpi : (t : Int) * (P : Int) = (tp : Int) := by rw [← htpe]; simp
      have hx2 : x + tp < P2 := by
        have := hst.1
        rwa [hP2e] at this
      have HST := Lib.hid hst
      have HP2E := Lib.hid hP2e
      have hp0 : ¬ p = 0 := by omega
      have hP0 : ¬ P = 0 := by omega
      have g1 : decide ((P : Int) < (M : Int)) = true := decide_eq_true (by omega)
      clear hst hP2 hP2e hv hq hmm hkk ht htpe
      go_wp2_with (go_at_call 36; refine HVX.out.mono ?_; rintro e w' ⟨rfl, hw⟩; subst hw)
      go_round
      case rel => exact ⟨x + tp, P2, i + 1, by go_num, rfl, by omega, hilt, HP2E.out, hP2M, HST.out⟩
      case measure => simp only [intOf]; omega
    · have g1 : decide ((P : Int) < (M : Int)) = false := decide_eq_false (by omega)
      have hke : i = k := by
        rcases Nat.lt_or_ge i k with h | h
        · exfalso
          have h2 : p ^ i < p ^ k := Nat.pow_lt_pow_right (by omega) h
          rw [HPI.out, HM.out] at h2
          omega
        · omega
      have HX : Hid (Lf a n p k root x) := Lib.hid (by rw [← hke]; exact HLF.out)
      clear hke
      go_wp2
      go_ret2
      exact ⟨hb12, .inr (.inr (.inr ⟨HPL.out, HL.out, HPRE.out, x, by rw [Int.toNat_natCast]; exact HX.out, rfl⟩))⟩
end Go.Proofs.Ytkklacgoeopekaa

namespace Go.Proofs.Ytkklacgoeopekaa
open Mr
set_option linter.unusedVariables false

/-- p^k is the greatest power of p that divides n -/
def Vp (p n k : Nat) : Prop := p ^ k ∣ n ∧ ¬ p ^ (k + 1) ∣ n

theorem Vp.uniq {p n k l : Nat} (h : Vp p n k) (h' : Vp p n l) : k = l := by
  rcases Nat.lt_trichotomy k l with h1 | h1 | h1
  · exact absurd (Nat.dvd_trans (Nat.pow_dvd_pow p (show k + 1 ≤ l by omega)) h'.1) h.2
  · exact h1
  · exact absurd (Nat.dvd_trans (Nat.pow_dvd_pow p (show l + 1 ≤ k by omega)) h.1) h'.2
theorem Vp.zero {p n : Nat} (h : ¬ p ∣ n) : Vp p n 0 := ⟨by rw [Nat.pow_zero]; exact Nat.one_dvd n, by rw [Nat.zero_add, Nat.pow_one]; exact h⟩
theorem Vp.mul {p n k : Nat} (hp : 0 < p) (h : Vp p n k) : Vp p (p * n) (k + 1) := by
  refine ⟨by rw [Nat.pow_succ, Nat.mul_comm]; exact Nat.mul_dvd_mul_left p h.1, fun h2 => h.2 ?_⟩
  rw [Nat.pow_succ, Nat.mul_comm] at h2
  exact Nat.dvd_of_mul_dvd_mul_left hp h2
/-- a power of another prime does not turn it -/
theorem Vp.other {p q n k : Nat} (hp : Pr p) (hq : Pr q) (hne : p ≠ q) (h : Vp p n k) : Vp p (q * n) k := by
  have hc : ∀ j, Nat.gcd (p ^ j) q = 1 := fun j => by
    have h1 : Nat.gcd p q = 1 := hp.coprime fun hd => (hq.2 p hd).elim (fun e => by have := hp.1; omega) hne
    exact Nat.Coprime.pow_left j h1
  exact ⟨Nat.dvd_trans h.1 (Nat.dvd_mul_left n q), fun h2 => h.2 (Nat.Coprime.dvd_of_dvd_mul_left (hc (k + 1)) h2)⟩
theorem Vp.self {p : Nat} (hp : Pr p) : Vp p p 1 := ⟨by rw [Nat.pow_one]; exact Nat.dvd_refl p, fun h => by
  have h1 := Nat.le_of_dvd hp.pos h
  have h2 := hp.1
  have h3 : p * 2 ≤ p * p := Nat.mul_le_mul_left p h2
  rw [show p ^ (1 + 1) = p * p from by rw [Nat.pow_succ, Nat.pow_one]] at h1
  omega⟩

noncomputable def pdB (N p : Nat) : Bool := @decide (Pr p ∧ p ∣ N) (Classical.propDecidable _)
theorem pdB_true {N p : Nat} : pdB N p = true ↔ Pr p ∧ p ∣ N := by unfold pdB; exact @decide_eq_true_iff _ (Classical.propDecidable _)
/-- the primes below d that divide N -/
noncomputable def prms (N d : Nat) : List Nat := (List.range d).filter (pdB N)
theorem prms_succ {N d : Nat} : prms N (d + 1) = prms N d ++ if pdB N d = true then [d] else [] := by
  unfold prms
  rw [List.range_succ, List.filter_append]
  congr 1
  by_cases h : pdB N d = true
  · rw [if_pos h, List.filter_cons_of_pos h, List.filter_nil]
  · rw [if_neg h, List.filter_cons_of_neg h, List.filter_nil]
theorem prms_skip {N : Nat} : ∀ e d, (∀ p, d ≤ p → p < d + e → ¬ (Pr p ∧ p ∣ N)) → prms N (d + e) = prms N d
  | 0, _, _ => rfl
  | e + 1, d, h => by
    rw [← Nat.add_assoc, prms_succ, if_neg (fun h1 => h (d + e) (by omega) (by omega) (pdB_true.1 h1)), List.append_nil]
    exact prms_skip e d fun p h1 h2 => h p h1 (by omega)
theorem prms_mem {N d p : Nat} : p ∈ prms N d ↔ p < d ∧ Pr p ∧ p ∣ N := by
  unfold prms
  rw [List.mem_filter, List.mem_range, pdB_true]

/-- the list of the primes below d that divide N, with their exponents -/
def FacTo (N d : Nat) (l : List (Nat × Nat)) : Prop := l.map (·.1) = prms N d ∧ ∀ x ∈ l, Vp x.1 N x.2

theorem FacTo.uniq {N d : Nat} : ∀ {l l' : List (Nat × Nat)}, FacTo N d l → FacTo N d l' → l = l' := by
  intro l l' h h'
  have h1 : l.map (·.1) = l'.map (·.1) := h.1.trans h'.1.symm
  have key : ∀ (l l' : List (Nat × Nat)), l.map (·.1) = l'.map (·.1) → (∀ x ∈ l, Vp x.1 N x.2) → (∀ x ∈ l', Vp x.1 N x.2) → l = l' := by
    intro l
    induction l with
    | nil => intro l' h _ _; cases l' with
      | nil => rfl
      | cons y l' => cases h
    | cons x l ih =>
      intro l' h g g'
      cases l' with
      | nil => cases h
      | cons y l' =>
        simp only [List.map_cons, List.cons.injEq] at h
        have e1 := g x (List.mem_cons_self ..)
        have e2 := g' y (List.mem_cons_self ..)
        rw [← h.1] at e2
        have e3 : x = y := Prod.ext h.1 (e1.uniq e2)
        rw [e3, ih l' h.2 (fun z hz => g z (List.mem_cons_of_mem _ hz)) (fun z hz => g' z (List.mem_cons_of_mem _ hz))]
  exact key l l' h1 h.2 h'.2

/-- the state of trial division: all primes below d are done, n is what is left of N -/
structure TD (N d n : Nat) (l : List (Nat × Nat)) : Prop where
  fac : FacTo N d l
  dvd : n ∣ N
  low : ∀ p, p < d → Pr p → ¬ p ∣ n
  same : ∀ p k, d ≤ p → Pr p → Vp p n k → Vp p N k

theorem TD.pos {N d n : Nat} {l : List (Nat × Nat)} (h : TD N d n l) (hN : 0 < N) : 0 < n := Nat.pos_of_dvd_of_pos h.dvd hN
theorem TD.start {N : Nat} : TD N 2 N [] where
  fac := by
    refine ⟨?_, fun x hx => absurd hx (by simp)⟩
    have : prms N (0 + 2) = prms N 0 := prms_skip 2 0 fun p _ h2 h3 => by have := h3.1.1; omega
    exact this.symm
  dvd := Nat.dvd_refl N
  low := fun p h1 h2 _ => by have := h2.1; omega
  same := fun p k _ _ h => h
/-- p divides what is left just where it divides N -/
theorem TD.iff {N d n p : Nat} {l : List (Nat × Nat)} (h : TD N d n l) (hN : 0 < N) (hd : d ≤ p) (hp : Pr p) : p ∣ n ↔ p ∣ N := by
  refine ⟨fun h1 => Nat.dvd_trans h1 h.dvd, fun h1 => ?_⟩
  rcases Decidable.em (p ∣ n) with h2 | h2
  · exact h2
  · have h3 := (h.same p 0 hd hp (Vp.zero h2)).2
    rw [Nat.zero_add, Nat.pow_one] at h3
    exact absurd h1 h3
/-- a divisor of what is left is a prime -/
theorem TD.prime {N d n : Nat} {l : List (Nat × Nat)} (h : TD N d n l) (hd : 2 ≤ d) (hn : d ∣ n) : Pr d := by
  obtain ⟨q, hq, hqd⟩ := exists_prime_dvd d hd
  rcases Nat.lt_or_ge q d with h1 | h1
  · exact absurd (Nat.dvd_trans hqd hn) (h.low q h1 hq)
  · have h2 := Nat.le_of_dvd (by omega) hqd
    rw [show d = q from by omega]
    exact hq
/-- d is no divisor of what is left: it is passed over -/
theorem TD.pass {N d n : Nat} {l : List (Nat × Nat)} (h : TD N d n l) (hN : 0 < N) (hn : ¬ d ∣ n) : TD N (d + 1) n l where
  fac := ⟨by rw [prms_succ, if_neg (fun h1 => hn ((h.iff hN (Nat.le_refl d) (pdB_true.1 h1).1).2 (pdB_true.1 h1).2)), List.append_nil]; exact h.fac.1, h.fac.2⟩
  dvd := h.dvd
  low := fun p h1 h2 h3 => by
    rcases Nat.lt_or_ge p d with h4 | h4
    · exact h.low p h4 h2 h3
    · exact hn (by rw [show d = p from by omega]; exact h3)
  same := fun p k h1 h2 h3 => h.same p k (by omega) h2 h3
/-- d is a divisor: it is taken out k times -/
theorem TD.take {N d n n' k : Nat} {l : List (Nat × Nat)} (h : TD N d n l) (hd : 2 ≤ d) (hk : 0 < k) (hn : n = d ^ k * n') (hn' : ¬ d ∣ n') : TD N (d + 1) n' (l ++ [(d, k)]) := by
  have hdn : d ∣ n := by rw [hn]; exact Nat.dvd_trans (by have h0 : d ^ 1 ∣ d ^ k := Nat.pow_dvd_pow d hk; rwa [Nat.pow_one] at h0) (Nat.dvd_mul_right _ n')
  have hp := h.prime hd hdn
  have hv : ∀ k, Vp d (d ^ k * n') k := fun k => by
    induction k with
    | zero => rw [Nat.pow_zero, Nat.one_mul]; exact Vp.zero hn'
    | succ k ih => rw [Nat.pow_succ, Nat.mul_comm (d ^ k), Nat.mul_assoc]; exact ih.mul hp.pos
  have hvN := h.same d k (Nat.le_refl d) hp (by rw [hn]; exact hv k)
  exact {
    fac := by
      refine ⟨?_, fun x hx => ?_⟩
      · rw [prms_succ, if_pos (pdB_true.2 ⟨hp, Nat.dvd_trans hdn h.dvd⟩), List.map_append, h.fac.1]
        rfl
      · rcases List.mem_append.1 hx with h1 | h1
        · exact h.fac.2 x h1
        · rw [List.mem_singleton.1 h1]
          exact hvN
    dvd := Nat.dvd_trans ⟨d ^ k, by rw [hn, Nat.mul_comm]⟩ h.dvd
    low := fun p h1 h2 h3 => by
      rcases Nat.lt_or_ge p d with h4 | h4
      · exact h.low p h4 h2 (by rw [hn]; exact Nat.dvd_trans h3 (Nat.dvd_mul_left n' _))
      · exact hn' (by rw [show d = p from by omega]; exact h3)
    same := fun p j h1 h2 h3 => h.same p j (by omega) h2 (by
      rw [hn]
      have : ∀ k, Vp p (d ^ k * n') j := fun k => by
        induction k with
        | zero => rw [Nat.pow_zero, Nat.one_mul]; exact h3
        | succ k ih => rw [Nat.pow_succ, Nat.mul_comm (d ^ k), Nat.mul_assoc]; exact ih.other h2 hp (by omega)
      exact this k) }
/-- what is left below d * d is a prime -/
theorem TD.rest {N d n : Nat} {l : List (Nat × Nat)} (h : TD N d n l) (hn : 1 < n) (hdd : n < d * d) : Pr n ∧ d ≤ n := by
  obtain ⟨q, hq, hqn⟩ := exists_prime_dvd n hn
  have hqd : d ≤ q := Nat.le_of_not_lt fun h1 => h.low q h1 hq hqn
  obtain ⟨c, hc⟩ := hqn
  have hc1 : c = 1 := by
    rcases Nat.lt_or_ge 1 c with h1 | h1
    · obtain ⟨r, hr, hrc⟩ := exists_prime_dvd c h1
      have hrd : d ≤ r := Nat.le_of_not_lt fun h2 => h.low r h2 hr (by rw [hc]; exact Nat.dvd_trans hrc (Nat.dvd_mul_left c q))
      have h3 := Nat.le_of_dvd (by omega) hrc
      have h4 : d * d ≤ q * c := Nat.mul_le_mul hqd (by omega)
      omega
    · rcases Nat.eq_zero_or_pos c with h2 | h2
      · rw [h2, Nat.mul_zero] at hc; omega
      · omega
  rw [hc1, Nat.mul_one] at hc
  rw [hc]
  exact ⟨hq, hqd⟩
theorem TD.up {N d e n : Nat} {l : List (Nat × Nat)} (h : TD N d n l) (hN : 0 < N) (hde : d ≤ e) (hp : ∀ p, d ≤ p → p < e → ¬ (Pr p ∧ p ∣ n)) : TD N e n l := by
  obtain ⟨c, rfl⟩ := Nat.exists_eq_add_of_le hde
  induction c with
  | zero => exact h
  | succ c ih =>
    have h1 := ih (by omega) fun p h1 h2 => hp p h1 (by omega)
    rw [← Nat.add_assoc]
    exact {
      fac := ⟨by rw [prms_succ, if_neg (fun h2 => hp (d + c) (by omega) (by omega) ⟨(pdB_true.1 h2).1, (h1.iff hN (Nat.le_refl _) (pdB_true.1 h2).1).2 (pdB_true.1 h2).2⟩), List.append_nil]; exact h1.fac.1, h1.fac.2⟩
      dvd := h.dvd
      low := fun p h2 h3 h4 => by
        rcases Nat.lt_or_ge p d with h5 | h5
        · exact h.low p h5 h3 h4
        · exact hp p h5 (by omega) ⟨h3, h4⟩
      same := fun p k h2 h3 h4 => h1.same p k (by omega) h3 h4 }
/-- nothing is left: the list is whole -/
theorem TD.done {N d : Nat} {l : List (Nat × Nat)} (h : TD N d 1 l) (hN : 0 < N) (hd : d ≤ N + 1) : FacTo N (N + 1) l :=
  (h.up hN hd fun p _ _ h3 => by have := Nat.le_of_dvd (by omega) h3.2; have := h3.1.1; omega).fac
theorem TD.over {N d : Nat} {l : List (Nat × Nat)} (h : TD N d 1 l) (hN : 0 < N) : FacTo N (N + 1) l := by
  rcases Nat.le_total d (N + 1) with h1 | h1
  · exact h.done hN h1
  · refine ⟨?_, h.fac.2⟩
    obtain ⟨c, hc⟩ := Nat.exists_eq_add_of_le h1
    rw [h.fac.1, hc]
    exact prms_skip c (N + 1) fun p h2 _ h3 => by have := Nat.le_of_dvd hN h3.2; omega
/-- a prime is left: it is the last one -/
theorem TD.last {N d n : Nat} {l : List (Nat × Nat)} (h : TD N d n l) (hN : 0 < N) (hn : Pr n) (hd : d ≤ n) : FacTo N (N + 1) (l ++ [(n, 1)]) := by
  have h1 := h.up hN hd fun p h1 h2 h3 => by rcases hn.2 p h3.2 with h4 | h4 <;> (have := h3.1.1; omega)
  exact (h1.take hn.1 (Nat.one_pos) (n' := 1) (by rw [Nat.pow_one, Nat.mul_one]) (fun h2 => by have := Nat.le_of_dvd (by omega) h2; have := hn.1; omega)).over hN
end Go.Proofs.Ytkklacgoeopekaa

namespace Go.Proofs.Ytkklacgoeopekaa
open Mr
set_option linter.unusedVariables false

theorem fac_prime {N : Nat} {l : List (Nat × Nat)} (h : FacTo N (N + 1) l) {x : Nat × Nat} (hx : x ∈ l) : Mr.Pr x.1 ∧ x.1 ∣ N := by
  have h1 : x.1 ∈ prms N (N + 1) := by rw [← h.1]; exact List.mem_map.2 ⟨x, hx, rfl⟩
  exact (prms_mem.1 h1).2
theorem fac_all {N q : Nat} {l : List (Nat × Nat)} (h : FacTo N (N + 1) l) (hN : 0 < N) (hq : Mr.Pr q) (hd : q ∣ N) : ∃ (j : Nat) (x : Nat × Nat), l[j]? = some x ∧ x.1 = q := by
  have h1 : q ∈ prms N (N + 1) := prms_mem.2 ⟨by have := Nat.le_of_dvd hN hd; omega, hq, hd⟩
  rw [← h.1] at h1
  obtain ⟨x, hx, hxq⟩ := List.mem_map.1 h1
  obtain ⟨j, hj⟩ := List.getElem?_of_mem hx
  exact ⟨j, x, hj, hxq⟩
/-- the state of the test of one candidate: the first i primes -/
def TI (n o : Nat) (l : List (Nat × Nat)) (x i : Nat) (g : Bool) : Prop :=
  (g = true → ∀ (j : Nat) (y : Nat × Nat), j < i → l[j]? = some y → ¬ Mr.U n x (o / y.1)) ∧ (g = false → ∃ (j : Nat) (y : Nat × Nat), l[j]? = some y ∧ Mr.U n x (o / y.1))
theorem TI.start (n o x : Nat) (l : List (Nat × Nat)) : TI n o l x 0 true := ⟨fun _ j y h => absurd h (Nat.not_lt_zero j), fun h => by cases h⟩
theorem TI.good {n o x : Nat} {l : List (Nat × Nat)} (h : TI n o l x l.length true) (hf : FacTo o (o + 1) l) (ho : 0 < o) (hu : Mr.U n x o) : Ordr n x o :=
  ordr_of ho hu fun q hq hd hu' => by
    obtain ⟨j, y, h1, h2⟩ := fac_all hf ho hq hd
    subst h2
    exact h.1 rfl j y (List.getElem?_eq_some_iff.1 h1).1 h1 hu'
theorem TI.bad {n o x i : Nat} {l : List (Nat × Nat)} (h : TI n o l x i false) (hf : FacTo o (o + 1) l) : ¬ Ordr n x o := fun hx => by
  obtain ⟨j, y, h1, h2⟩ := h.2 rfl
  obtain ⟨h3, h4⟩ := fac_prime hf (List.mem_of_getElem? h1)
  exact hx.test h3.1 h4 h2
theorem TI.keep {n o x i : Nat} {l : List (Nat × Nat)} (h : TI n o l x i false) : TI n o l x (i + 1) false := ⟨fun h' => (by cases h'), h.2⟩
theorem TI.next {n o x i pv : Nat} {l : List (Nat × Nat)} {y : Nat × Nat} {g : Bool} (h : TI n o l x i true) (hy : l[i]? = some y) (hn : 2 ≤ n) (hpv : x ^ (o / y.1) % n = pv) (hg : g = !(decide (pv = 1))) : TI n o l x (i + 1) g := by
  have hiff : Mr.U n x (o / y.1) ↔ pv = 1 := by unfold Mr.U; rw [hpv, Nat.mod_eq_of_lt hn]
  refine ⟨fun h1 j z h2 h3 => ?_, fun h1 => ⟨i, y, hy, hiff.2 ?_⟩⟩
  · rcases Nat.lt_or_ge j i with h4 | h4
    · exact h.1 rfl j z h4 h3
    · obtain rfl : j = i := by omega
      rw [hy] at h3
      injection h3 with h3
      rw [← h3]
      intro h5
      rw [hg, hiff.1 h5] at h1
      cases h1
  · rw [hg] at h1
    simpa using h1
theorem Least.pos {n o v : Nat} (hp : Mr.Pr n) (h : Least n o v) : 1 ≤ v := by
  rcases Nat.eq_zero_or_pos v with h0 | h0
  · exfalso
    have h1 := U.coprime hp h.1.1 h.1.2.1
    rw [h0, Nat.gcd_zero_right] at h1
    have := hp.1
    omega
  · exact h0
theorem exists_least {n o : Nat} (hp : Mr.Pr n) (ho : 0 < o) (hd : o ∣ n - 1) : ∃ v, Least n o v := by
  obtain ⟨a, ha⟩ := exists_ord hp o ho hd
  have key : ∀ b, b < n → Ordr n b o → ∃ v, Least n o v := by
    intro b
    induction b using Nat.strongRecOn with
    | ind b ih =>
      intro hb hob
      rcases Classical.em (∃ u, u < b ∧ Ordr n u o) with ⟨u, h1, h2⟩ | h1
      · exact ih u h1 (by omega) h2
      · exact ⟨b, hob, hb, fun u h2 h3 => Nat.le_of_not_lt fun h4 => h1 ⟨u, h4, h3⟩⟩
  exact key (a % n) (Nat.mod_lt _ hp.pos) (Ordr.modl.2 ha)
theorem Ordr.down {n g o M : Nat} (hg : Ordr n g (n - 1)) (ho : 0 < o) (hM : n - 1 = o * M) : Ordr n (g ^ M % n) o := by
  have h0 := hg.1
  have hM0 : 0 < M := Nat.pos_of_ne_zero fun h => by rw [h, Nat.mul_zero] at hM; omega
  refine Ordr.modl.2 ⟨ho, U.pow.2 (by rw [Nat.mul_comm, ← hM]; exact hg.2.1), fun e he => ?_⟩
  have h1 := hg.2.2 _ (U.pow.1 he)
  rw [hM, Nat.mul_comm o] at h1
  exact Nat.dvd_of_mul_dvd_mul_left hM0 h1
theorem U.fermat {n g : Nat} (hp : Mr.Pr n) (h1 : 1 ≤ g) (h2 : g < n) : Mr.U n g (n - 1) := Mr.flt hp fun h => by have := Nat.le_of_dvd (by omega) h; omega

end Go.Proofs.Ytkklacgoeopekaa

namespace Go.Proofs.Ytkklacgoeopekaa
open Go.RowKit Go.Shelf
set_option linter.unusedVariables false

/-- the divisors that are tried: 2 and the odd numbers -/
def el : Nat → Nat
  | 0 => 2
  | j + 1 => 2 * j + 3
abbrev Dv1 := { d : Nat // 2 ≤ d ∧ d < 65536 }
def encD (x : Dv1) : Array Value := #[.int .u32 (x.1 : Int)]
def Can (pre : List Dv1) : Prop := pre.map (·.1) = (List.range pre.length).map el
theorem Can.nil : Can [] := rfl
theorem Can.snoc {pre : List Dv1} {x : Dv1} (h : Can pre) (hx : x.1 = el pre.length) : Can (pre ++ [x]) := by
  unfold Can at *
  rw [List.map_append, h, List.length_append, List.length_singleton, List.range_succ, List.map_append]
  simp [hx]
theorem Can.init {pre : List Dv1} {x : Dv1} (h : Can (pre ++ [x])) : Can pre ∧ x.1 = el pre.length := by
  unfold Can at *
  rw [List.map_append, List.length_append, List.length_singleton, List.range_succ, List.map_append] at h
  have h1 := List.append_inj h (by simp)
  exact ⟨h1.1, by simpa using h1.2⟩

set_option maxHeartbeats 1000000 in
theorem divisors_stops {Kp : World → World → Prop} (F : Fence) (m : Nat) (hF : F.fn 81) (hro : F.round = none) (hm : 1 ≤ m) (w : World) :
    SeqStopsK F m Try.prog 81 #[] encD Kp (fun xs => Can xs ∧ xs.length = 32768) Can 32768 w := fun l J Jx W hW hJ hJx hY h0 => by
  refine callsIn_of_wp Try.func81 rfl hF ?_ hro
  simp only [Try.ntmps81, List.size_toArray, List.length_cons, List.length_nil, Nat.reduceAdd, Nat.reduceSub, Array.replicate_succ, Array.replicate_zero, List.push_toArray, List.append_toArray, List.nil_append, List.cons_append]
  obtain ⟨f1, t1, a1, b1, hy1, hR1⟩ := hY [] ⟨2, by omega, by omega⟩ W h0 (by simp)
  have hy : Sem.run Try.prog (Instr.yield l #[.int .u32 2]) W = _ := hy1
  gi_wp2
  refine hR1.mono ?_
  rintro e W1 (⟨rfl, hJ1, _⟩ | ⟨rfl, hx1⟩)
  · gi_wp2
    gi_loopw [2] (fun p wr => ∃ (j : Nat) (pre : List Dv1), p = .int .u32 ((2 * j + 3 : Nat) : Int) ∧ j ≤ 32767 ∧ Can pre ∧ pre.length = j + 1 ∧ J pre wr) (fun p _ => 65540 - (intOf p).toNat)
    case atStart => exact ⟨0, [⟨2, by omega, by omega⟩], rfl, Nat.zero_le _, Can.snoc Can.nil rfl, rfl, hJ1⟩
    case round =>
      obtain ⟨j, pre, rfl, hj, hcan, hlen, hJs⟩ := hrel
      by_cases hjn : j < 32767
      · obtain ⟨fn, tmps, assign, body, hy, hR⟩ := hY pre ⟨2 * j + 3, by omega, by omega⟩ _ hJs (by omega)
        dsimp only [encD] at hy
        have hlt : decide (((2 * j + 3 : Nat) : Int) < 65536) = true := decide_eq_true (by omega)
        obtain ⟨d, hd⟩ : ∃ d, 2 * j + 3 = d := ⟨_, rfl⟩
        rw [hd] at hy hlt ⊢
        gi_wp2
        refine hR.mono ?_
        rintro e W2 (⟨rfl, hJ2, _⟩ | ⟨rfl, hx2⟩)
        · gi_wp2
          go_roundw
          case rel => exact ⟨j + 1, _, by go_num, by omega, hcan.snoc (by rw [hlen]; rfl), by rw [List.length_append, hlen]; rfl, hJ2⟩
          case measure => simp only [intOf]; omega
        · gi_wp2
          refine bodyPost_ret (results_none rfl _ _ _) rfl ?_
          exact ⟨⟨_, rfl⟩, .inr ⟨_, hcan.snoc (by rw [hlen]; rfl), hx2⟩⟩
      · obtain rfl : j = 32767 := by omega
        gi_wp2
        go_end0
        exact ⟨⟨_, rfl⟩, .inl ⟨pre, ⟨hcan, hlen⟩, hJs⟩⟩
  · gi_wp2
    refine bodyPost_ret (results_none rfl _ _ _) rfl ?_
    exact ⟨⟨_, rfl⟩, .inr ⟨_, Can.snoc Can.nil rfl, hx1⟩⟩
end Go.Proofs.Ytkklacgoeopekaa
