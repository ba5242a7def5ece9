/- The reference's slots in memory; the contracts of Modulus, Balanced, turned, Exponent, zeta and Valid. -/
/- The contract of the reference's Decode. -/
import Derived.Test.YtcnkddoipmaddaaChk8
import Derived.Test.YtcnkddoipmaddaaDec8
import Derived.Test.YtcnkddoipmaddaaRRoot7
namespace Go.Proofs.Ytcnkddoipmaddaa
open Go.RowKit
set_option linter.unusedVariables false

/-- the reference's slots at block b -/
structure Rz (W : World) (lo b n p R x : Nat) : Prop where
  cN : W.cell? ⟨b, 0, none⟩ = some (.int .i64 (n : Int))
  cP : W.cell? ⟨b, 1, none⟩ = some (.int .u32 (p : Int))
  cR : W.cell? ⟨b, 2, none⟩ = some (.int .i64 (R : Int))
  cX : W.cell? ⟨b, 3, none⟩ = some (.int .u32 (x : Int))
  lob : lo ≤ b
  lt : b < W.heap.size
theorem Rz.below {W W' : World} {lo b n p R x B : Nat} (h : Rz W lo b n p R x) (hb : Below B W W') (hB : W.heap.size ≤ B) : Rz W' lo b n p R x := by
  have hz := hb.size
  have hlt := h.lt
  exact ⟨(below_c hb (by omega)).trans h.cN, (below_c hb (by omega)).trans h.cP, (below_c hb (by omega)).trans h.cR, (below_c hb (by omega)).trans h.cX, h.lob, by omega⟩

theorem rmod8_any (b p E : Nat) (w : World) (k1 : w.cell? ⟨b, 1, none⟩ = some (.int .u32 (p : Int))) (hp2 : 2 ≤ p) (hp : p ≤ 65535) (hE : E ≤ 1000) (hpE : p ^ E ≤ 2147483647) :
    Calls Try.prog 35 #[.pointer (some ⟨b, 0, none⟩), .int .i64 (E : Int)] w (RetP w (.int .i64 ((p ^ E : Nat) : Int))) := by
  obtain ⟨v, hv⟩ : ∃ v, p ^ E = v := ⟨_, rfl⟩
  rw [hv]
  have HV := Lib.hid hv
  clear hv
  go_enter Try.func35, Try.ntmps35
  go_wp2
  go_loop [5, 6] (fun M I => ∃ i m : Nat, M = .int .i64 (m : Int) ∧ I = .int .i64 (i : Int) ∧ i ≤ E ∧ m ≤ 2147483647 ∧ p ^ i = m) (fun _ I => E - (intOf I).toNat)
  case atStart => exact ⟨0, 1, rfl, rfl, Nat.zero_le _, by omega, Nat.pow_zero p⟩
  case round =>
    obtain ⟨i, m, rfl, rfl, hik, hmb, hpm⟩ := hrel
    by_cases hlt : i < E
    · obtain ⟨m2, hm2⟩ : ∃ m2, m * p = m2 := ⟨_, rfl⟩
      have hm2i : (m : Int) * (p : Int) = (m2 : Int) := by rw [← hm2]; simp
      have hm2b : m2 ≤ 2147483647 * 65535 := by rw [← hm2]; exact Nat.mul_le_mul hmb hp
      have hp2 : p ^ (i + 1) = m2 := by rw [Nat.pow_succ, hpm, hm2]
      have hm3 : m2 ≤ 2147483647 := by
        have := Nat.pow_le_pow_right (show 0 < p by omega) (show i + 1 ≤ E by omega)
        omega
      have e1 : decide ((i : Int) < (E : Int)) = true := decide_eq_true (by omega)
      have HP2 := Lib.hid hp2
      clear hm2 hp2 hpm hpE
      go_wp2
      go_round
      case rel => exact ⟨i + 1, m2, rfl, by go_num, hlt, hm3, HP2.out⟩
      case measure => simp only [intOf]; omega
    · obtain rfl : E = i := by omega
      have e1 : decide ((E : Int) < (E : Int)) = false := decide_eq_false (by omega)
      obtain rfl : v = m := HV.out.symm.trans hpm
      clear hpm hpE
      go_wp2
      go_ret
      exact ⟨rfl, rfl⟩

theorem rbal8_any (y : Int) (m : Nat) (w : World) (hm3 : 3 ≤ m) (hm : m ≤ 2147483647) (hodd : m % 2 = 1) :
    Calls Try.prog 22 #[.int .i64 y, .int .i64 (m : Int)] w (RetP w (.int .i64 (bal m y))) := by
  obtain ⟨t, ht, t1, t2, t3⟩ := tm_fact y (m := m) (by omega)
  obtain ⟨h, hh⟩ : ∃ h, m / 2 = h := ⟨_, rfl⟩
  have ht1 : ((m : Int) - 1).tdiv 2 = (h : Int) := by rw [Int.tdiv_eq_ediv_of_nonneg (by omega)]; omega
  have ht1d : ((m : Int) - 1) / 2 = (h : Int) := by omega
  have ht2 : (-((m : Int) - 1)).tdiv 2 = -(h : Int) := by rw [Int.neg_tdiv, ht1]
  have hbal : ∀ z : Int, Cg m z y → -(h : Int) ≤ z → z ≤ (h : Int) → bal m y = z := fun z hz h1 h2 => bal_of hodd hz (by rw [hh]; exact ⟨h1, h2⟩)
  have hmm : (m : Int) = 2 * (h : Int) + 1 := by omega
  have hm0 : ¬ m = 0 := by omega
  have hcase : (h : Int) < t ∨ (t ≤ (h : Int) ∧ t < -(h : Int)) ∨ (t ≤ (h : Int) ∧ -(h : Int) ≤ t) := by omega
  rcases hcase with h1 | ⟨h1, h2⟩ | ⟨h1, h2⟩
  · have e1 : decide (t > (h : Int)) = true := decide_eq_true (by omega)
    have e2 : decide ((h : Int) < t) = true := decide_eq_true (by omega)
    have HE := Lib.hid (hbal (t - m) (Cg.trans ⟨-1, by omega⟩ t3) (by omega) (by omega))
    clear t3 hbal hmm hh
    go_enter Try.func22, Try.ntmps22
    go_wp2
    go_ret
    exact ⟨by rw [HE.out]; rfl, rfl⟩
  · have e1 : decide (t > (h : Int)) = false := decide_eq_false (by omega)
    have e2 : decide ((h : Int) < t) = false := decide_eq_false (by omega)
    have e3 : decide (t < -(h : Int)) = true := decide_eq_true (by omega)
    have HE := Lib.hid (hbal (t + m) (Cg.trans ⟨1, by omega⟩ t3) (by omega) (by omega))
    clear t3 hbal hmm hh
    go_enter Try.func22, Try.ntmps22
    go_wp2
    go_ret
    exact ⟨by rw [HE.out]; rfl, rfl⟩
  · have e1 : decide (t > (h : Int)) = false := decide_eq_false (by omega)
    have e2 : decide ((h : Int) < t) = false := decide_eq_false (by omega)
    have e3 : decide (t < -(h : Int)) = false := decide_eq_false (by omega)
    have HE := Lib.hid (hbal t t3 (by omega) (by omega))
    clear t3 hbal hmm hh
    go_enter Try.func22, Try.ntmps22
    go_wp2
    go_ret
    exact ⟨by rw [HE.out]; rfl, rfl⟩

theorem turned_any (b n j : Nat) (w : World) (k0 : w.cell? ⟨b, 0, none⟩ = some (.int .i64 (n : Int))) (hn : 4 ≤ n) (hn2 : n ≤ 32) (hj : j ≤ 100) :
    Calls Try.prog 41 #[.pointer (some ⟨b, 0, none⟩), .int .i64 (j : Int)] w (RetP w (.int .i64 ((3 ^ j % (2 * n) : Nat) : Int))) := by
  have hn0 : ¬ n = 0 := by omega
  obtain ⟨v, hv⟩ : ∃ v, 3 ^ j % (2 * n) = v := ⟨_, rfl⟩
  rw [hv]
  have HV := Lib.hid hv
  clear hv
  go_enter Try.func41, Try.ntmps41
  go_wp2
  go_loop [5, 6] (fun K I => ∃ i k : Nat, K = .int .i64 (k : Int) ∧ I = .int .i64 (i : Int) ∧ i ≤ j ∧ k < 2 * n ∧ 3 ^ i % (2 * n) = k) (fun _ I => j - (intOf I).toNat)
  case atStart => exact ⟨0, 1, rfl, rfl, Nat.zero_le _, by omega, by rw [Nat.pow_zero]; exact Nat.mod_eq_of_lt (by omega)⟩
  case round =>
    obtain ⟨i, k, rfl, rfl, hij, hkn, hk⟩ := hrel
    by_cases hlt : i < j
    · obtain ⟨k2, hk2⟩ : ∃ k2, 3 * k % (2 * n) = k2 := ⟨_, rfl⟩
      have hki : (3 * (k : Int)) % (2 * (n : Int)) = (k2 : Int) := by rw [← hk2]; simp
      have hkt : (3 * (k : Int)).tmod (2 * (n : Int)) = (k2 : Int) := by rw [Int.tmod_eq_emod_of_nonneg (by omega), hki]
      have hk2n : k2 < 2 * n := by rw [← hk2]; exact Nat.mod_lt _ (by omega)
      have HNX : Hid (3 ^ (i + 1) % (2 * n) = k2) := Lib.hid (by rw [← hk2, ← hk, Nat.pow_succ, Nat.mul_comm 3, Nat.mod_mul_mod])
      have e1 : decide ((i : Int) < (j : Int)) = true := decide_eq_true (by omega)
      clear hk2 hk
      go_wp2
      go_round
      case rel => exact ⟨i + 1, k2, rfl, by go_num, hlt, hk2n, HNX.out⟩
      case measure => simp only [intOf]; omega
    · obtain rfl : j = i := by omega
      have e1 : decide ((j : Int) < (j : Int)) = false := decide_eq_false (by omega)
      obtain rfl : v = k := HV.out.symm.trans hk
      clear hk
      go_wp2
      go_ret
      exact ⟨rfl, rfl⟩

/-- a call that returns one value and draws -/
def RetQ (w : World) (v : Value) (e : Ending) (w' : World) : Prop := e = .returned v ∧ ∃ d, w' = w.drewN d
theorem rexp_any (b n j : Nat) (w : World) (k0 : w.cell? ⟨b, 0, none⟩ = some (.int .i64 (n : Int))) (hn : 4 ≤ n) (hn2 : n ≤ 32) (hj : j < n) :
    Calls Try.prog 38 #[.pointer (some ⟨b, 0, none⟩), .int .i64 (j : Int)] w (RetQ w (.int .i64 ((exN n j : Nat) : Int))) := by
  have HT := Lib.hid (fun (i : Nat) (hi : i ≤ 100) (w' : World) (h : w'.cell? ⟨b, 0, none⟩ = some (.int .i64 (n : Int))) => turned_any b n i w' h hn hn2 hi)
  obtain ⟨h, hh⟩ : ∃ h, n / 2 = h := ⟨_, rfl⟩
  have hht : (n : Int).tdiv 2 = (h : Int) := by rw [Int.tdiv_eq_ediv_of_nonneg (by omega)]; omega
  have hhd : (n : Int) / 2 = (h : Int) := by omega
  by_cases hc : j < h
  · have e1 : decide ((j : Int) < (h : Int)) = true := decide_eq_true (by omega)
    have HE : Hid (exN n j = 3 ^ j % (2 * n)) := Lib.hid (by unfold exN; rw [hh, if_pos hc])
    have HT1 := Lib.hid (HT.out j (by omega) w k0)
    obtain ⟨v, hv⟩ : ∃ v, 3 ^ j % (2 * n) = v := ⟨_, rfl⟩
    rw [hv] at HT1
    have HV := Lib.hid hv
    clear hh hv
    go_enter Try.func38, Try.ntmps38
    go_wp2_with (go_at_call 41; refine HT1.out.mono ?_; rintro e w' ⟨rfl, hw⟩; subst hw)
    go_ret
    exact ⟨by rw [HE.out, HV.out]; rfl, 0, rfl⟩
  · have e1 : decide ((j : Int) < (h : Int)) = false := decide_eq_false (by omega)
    have HE : Hid (exN n j = 2 * n - 3 ^ (j - h) % (2 * n)) := Lib.hid (by unfold exN; rw [hh, if_neg hc])
    obtain ⟨v, hv⟩ : ∃ v, 3 ^ (j - h) % (2 * n) = v := ⟨_, rfl⟩
    have hvn : v < 2 * n := by rw [← hv]; exact Nat.mod_lt _ (by omega)
    have HT1 := Lib.hid (fun m => HT.out (j - h) (by omega) (w.drewN m) ((World.cell?_drewN w m _).trans k0))
    rw [hv] at HT1
    have hsub : (j : Int) - (h : Int) = ((j - h : Nat) : Int) := by omega
    have HV := Lib.hid hv
    clear hh hv
    go_enter Try.func38, Try.ntmps38
    go_wp2
    go_quiet ((exact (HT1.out _).mono fun e w' hh => ⟨hh.1, _, hh.2.symm⟩))
    go_wp2
    go_ret
    exact ⟨by rw [HE.out, HV.out]; have : ((2 * n - v : Nat) : Int) = 2 * (n : Int) - (v : Int) := by omega
              rw [this]; rfl, _, rfl⟩

theorem rzeta_any (b n x k m : Nat) (w : World) (k0 : w.cell? ⟨b, 0, none⟩ = some (.int .i64 (n : Int))) (k3 : w.cell? ⟨b, 3, none⟩ = some (.int .u32 (x : Int))) (hn : 4 ≤ n) (hn2 : n ≤ 32) (hk : k ≤ 100000) (hx : x ≤ 2147483647) (hm2 : 2 ≤ m) (hm : m ≤ 2147483647) :
    Calls Try.prog 37 #[.pointer (some ⟨b, 0, none⟩), .int .i64 (k : Int), .int .i64 (m : Int)] w (RetP w (.int .i64 ((x ^ (k % (2 * n)) % m : Nat) : Int))) := by
  have hn0 : ¬ n = 0 := by omega
  have hm0 : ¬ m = 0 := by omega
  obtain ⟨r, hr⟩ : ∃ r, k % (2 * n) = r := ⟨_, rfl⟩
  have hr2 : r < 2 * n := by rw [← hr]; exact Nat.mod_lt _ (by omega)
  have hri : (k : Int) % (2 * (n : Int)) = (r : Int) := by rw [← hr]; simp
  have hrt : (k : Int).tmod (2 * (n : Int)) = (r : Int) := by rw [Int.tmod_eq_emod_of_nonneg (by omega), hri]
  obtain ⟨xm, hxm⟩ : ∃ xm, x % m = xm := ⟨_, rfl⟩
  have hxi : (x : Int) % (m : Int) = (xm : Int) := by rw [← hxm]; simp
  have hxt : (x : Int).tmod (m : Int) = (xm : Int) := by rw [Int.tmod_eq_emod_of_nonneg (by omega), hxi]
  have hxb : xm < m := by rw [← hxm]; exact Nat.mod_lt _ (by omega)
  rw [hr]
  obtain ⟨v, hv⟩ : ∃ v, x ^ r % m = v := ⟨_, rfl⟩
  rw [hv]
  have HV := Lib.hid hv
  have HXM := Lib.hid hxm
  clear hr hxm hv
  go_enter Try.func37, Try.ntmps37
  go_wp2
  go_loop [7, 8] (fun O I => ∃ i o : Nat, O = .int .i64 (o : Int) ∧ I = .int .i64 (i : Int) ∧ i ≤ r ∧ o < m ∧ x ^ i % m = o) (fun _ I => r - (intOf I).toNat)
  case atStart => exact ⟨0, 1, rfl, rfl, Nat.zero_le _, by omega, by rw [Nat.pow_zero]; exact Nat.mod_eq_of_lt (by omega)⟩
  case round =>
    obtain ⟨i, o, rfl, rfl, hir, hom, ho⟩ := hrel
    by_cases hlt : i < r
    · obtain ⟨mm, hmm⟩ : ∃ mm, o * xm = mm := ⟨_, rfl⟩
      have hmi : (o : Int) * (xm : Int) = (mm : Int) := by rw [← hmm]; simp
      have hmb : mm ≤ 4611686009837453316 := by rw [← hmm]; exact mul_lt_of hom hxb hm
      obtain ⟨o2, ho2⟩ : ∃ o2, mm % m = o2 := ⟨_, rfl⟩
      have hoi : (mm : Int) % (m : Int) = (o2 : Int) := by rw [← ho2]; simp
      have hot : (mm : Int).tmod (m : Int) = (o2 : Int) := by rw [Int.tmod_eq_emod_of_nonneg (by omega), hoi]
      have ho2m : o2 < m := by rw [← ho2]; exact Nat.mod_lt _ (by omega)
      have HNX : Hid (x ^ (i + 1) % m = o2) := Lib.hid (by rw [← ho2, ← hmm, ← ho, ← HXM.out, Nat.pow_succ, ← Nat.mul_mod])
      have e1 : decide ((i : Int) < (r : Int)) = true := decide_eq_true (by omega)
      clear hmm ho2 ho
      go_wp2
      go_round
      case rel => exact ⟨i + 1, o2, rfl, by go_num, hlt, ho2m, HNX.out⟩
      case measure => simp only [intOf]; omega
    · obtain rfl : r = i := by omega
      have e1 : decide ((r : Int) < (r : Int)) = false := decide_eq_false (by omega)
      obtain rfl : v = o := HV.out.symm.trans ho
      clear ho
      go_wp2
      go_ret
      exact ⟨rfl, rfl⟩

/-- true or false as a claim holds -/
def RetB (w : World) (P : Prop) (e : Ending) (w' : World) : Prop := w = w' ∧ ((P ∧ e = .returned (.bool true)) ∨ (¬ P ∧ e = .returned (.bool false)))

set_option maxRecDepth 100000 in
set_option maxHeartbeats 2000000 in
theorem rvalid_any (lo b n p R x m c lo' hi : Nat) (E : Int) (A : Option Addr) (a : Nat → Int) (w : World) (h : Rz w lo b n p R x) (hn : 1 ≤ n) (hn2 : n ≤ 32) (hR : R ≤ 40) (hp : 3 ≤ p) (hp6 : p ≤ 65535) (hodd : p % 2 = 1) (hpR : p ^ R ≤ 2147483647) (ha : Z.Sq .i64 w lo' hi A m a) (hm : m ≤ 9223372036854775807) :
    Calls Try.prog 34 #[.pointer (some ⟨b, 0, none⟩), .slice A m c, .int .i64 E] w (RetB w (VOk n p R m a E)) := by
  have k0 := h.cN
  have k1 := h.cP
  have k2 := h.cR
  have HA := Lib.hid ha
  clear h ha
  by_cases h0 : 1 ≤ E ∧ E ≤ R ∧ m = n
  rotate_left
  · have HN : Hid (¬ VOk n p R m a E) := Lib.hid fun h2 => h0 ⟨h2.1, h2.2.1, h2.2.2.1⟩
    have hc : E < 1 ∨ (1 ≤ E ∧ R < E) ∨ (1 ≤ E ∧ E ≤ R ∧ m ≠ n) := by omega
    clear h0
    rcases hc with h1 | ⟨h1, h2⟩ | ⟨h1, h2, h3⟩
    all_goals
      try first
        | have d1 : decide (E < 1) = true := decide_eq_true (by omega)
        | have d1 : decide (E < 1) = false := decide_eq_false (by omega)
      try first
        | have d2 : decide (E > (R : Int)) = true := decide_eq_true (by omega)
        | have d2 : decide (E > (R : Int)) = false := decide_eq_false (by omega)
      try first
        | have d4 : decide ((R : Int) < E) = true := decide_eq_true (by omega)
        | have d4 : decide ((R : Int) < E) = false := decide_eq_false (by omega)
      try have d3 : ((m : Int) != (n : Int)) = true := by simp; omega
      go_enter Try.func34, Try.ntmps34
      go_wp2
      go_ret
      exact ⟨rfl, .inr ⟨HN.out, rfl⟩⟩
  obtain ⟨h1, h2, rfl⟩ := h0
  obtain ⟨e, rfl⟩ : ∃ e : Nat, E = (e : Int) := ⟨E.toNat, by omega⟩
  have d1 : decide ((e : Int) < 1) = false := decide_eq_false (by omega)
  have d2 : decide ((e : Int) > (R : Int)) = false := decide_eq_false (by omega)
  have d4 : decide ((R : Int) < (e : Int)) = false := decide_eq_false (by omega)
  have d5 : decide (R < e) = false := decide_eq_false (by omega)
  have d3 : ((m : Int) != (m : Int)) = false := by simp
  have hqb : p ^ e ≤ 2147483647 := by
    have := Nat.pow_le_pow_right (show 0 < p by omega) (show e ≤ R by omega)
    omega
  have HM := Lib.hid (rmod8_any b p e w k1 (by omega) hp6 (by omega) hqb)
  obtain ⟨q, hq⟩ : ∃ q, p ^ e = q := ⟨_, rfl⟩
  rw [hq] at HM hqb
  have hqo : q % 2 = 1 := by rw [← hq, Nat.pow_mod, hodd, Nat.one_pow]
  obtain ⟨hf, hhf⟩ : ∃ hf, q / 2 = hf := ⟨_, rfl⟩
  have hht : ((q : Int) - 1).tdiv 2 = (hf : Int) := by rw [Int.tdiv_eq_ediv_of_nonneg (by omega)]; omega
  have hhd : ((q : Int) - 1) / 2 = (hf : Int) := by omega
  have hh2 : (-((q : Int) - 1)).tdiv 2 = -(hf : Int) := by rw [Int.neg_tdiv, hht]
  have HVOK : Hid ((∀ i, i < m → -(hf : Int) ≤ a i ∧ a i ≤ (hf : Int)) → VOk m p R m a (e : Int)) := Lib.hid fun hh => ⟨by omega, by omega, rfl, by rw [Int.toNat_natCast, hq]; unfold Bl; rw [hhf]; exact hh⟩
  have HVNO : Hid (∀ i, i < m → ¬ (-(hf : Int) ≤ a i ∧ a i ≤ (hf : Int)) → ¬ VOk m p R m a (e : Int)) := Lib.hid fun i hi hno hv => hno (by
    have h5 := hv.2.2.2 i hi
    rw [Int.toNat_natCast, hq, hhf] at h5
    exact h5)
  have hfb : hf ≤ 1073741823 := by omega
  clear hq hhf h1 h2 hqo
  go_enter Try.func34, Try.ntmps34
  go_wp2_with (go_at_call 35; refine HM.out.mono ?_; rintro e w' ⟨rfl, hw⟩; subst hw)
  go_loop [8] (fun I => ∃ i : Nat, I = .int .i64 (i : Int) ∧ i ≤ m ∧ ∀ j, j < i → -(hf : Int) ≤ a j ∧ a j ≤ (hf : Int)) (fun I => m - (intOf I).toNat)
  case atStart => exact ⟨0, rfl, Nat.zero_le _, fun j hj => by omega⟩
  case round =>
    obtain ⟨i, rfl, him, hall⟩ := hrel
    have HALL := Lib.hid hall
    clear hall
    by_cases hlt : i < m
    · have e1 : decide ((i : Int) < (m : Int)) = true := decide_eq_true (by omega)
      obtain ⟨gg, off, hAe, _, hgl, hcell⟩ := HA.out.2 (by omega)
      have kc := hcell i hlt
      obtain ⟨y, hy⟩ : ∃ y, a i = y := ⟨_, rfl⟩
      rw [hy] at kc
      rw [hAe]
      have b1 : 0 ≤ (i : Int) := by omega
      have b2 : (i : Int) < (m : Int) := by omega
      by_cases hin : -(hf : Int) ≤ y ∧ y ≤ (hf : Int)
      · have e3 : decide (y < -(hf : Int)) = false := decide_eq_false (by omega)
        have e4 : decide (y > (hf : Int)) = false := decide_eq_false (by omega)
        have e5 : decide ((hf : Int) < y) = false := decide_eq_false (by omega)
        have HNX : Hid (∀ j, j < i + 1 → -(hf : Int) ≤ a j ∧ a j ≤ (hf : Int)) := Lib.hid fun j hj => by
          rcases Nat.lt_or_eq_of_le (Nat.le_of_lt_succ hj) with h5 | h5
          · exact HALL.out j h5
          · rw [h5, hy]; exact hin
        clear hcell hy hAe hin
        go_wp2
        go_round
        case rel => exact ⟨i + 1, by go_num, hlt, HNX.out⟩
        case measure => simp only [intOf]; omega
      · have HN := Lib.hid (HVNO.out i hlt (by rw [hy]; exact hin))
        have hc : y < -(hf : Int) ∨ (-(hf : Int) ≤ y ∧ (hf : Int) < y) := by omega
        clear hcell hy hAe hin
        rcases hc with h5 | ⟨h5, h6⟩
        · have e3 : decide (y < -(hf : Int)) = true := decide_eq_true (by omega)
          go_wp2
          go_ret
          exact ⟨rfl, .inr ⟨HN.out, rfl⟩⟩
        · have e3 : decide (y < -(hf : Int)) = false := decide_eq_false (by omega)
          have e4 : decide (y > (hf : Int)) = true := decide_eq_true (by omega)
          have e5 : decide ((hf : Int) < y) = true := decide_eq_true (by omega)
          go_wp2
          go_ret
          exact ⟨rfl, .inr ⟨HN.out, rfl⟩⟩
    · obtain rfl : m = i := by omega
      have e1 : decide ((m : Int) < (m : Int)) = false := decide_eq_false (by omega)
      have HV := Lib.hid (HVOK.out HALL.out)
      go_wp2
      go_ret
      exact ⟨rfl, .inl ⟨HV.out, rfl⟩⟩
end Go.Proofs.Ytcnkddoipmaddaa

namespace Go.Proofs.Ytcnkddoipmaddaa
open Go.RowKit
set_option linter.unusedVariables false

/-- a bound for a product of a balanced number and a residue -/
theorem bal_mul {q : Nat} {y : Int} {v : Nat} (hq : q ≤ 2147483647) (hy : -((q / 2 : Nat) : Int) ≤ y ∧ y ≤ ((q / 2 : Nat) : Int)) (hv : v < q) : -2305843009213693952 ≤ y * (v : Int) ∧ y * (v : Int) ≤ 2305843009213693952 := by
  have h1 : y * (v : Int) ≤ 1073741823 * (v : Int) := Int.mul_le_mul_of_nonneg_right (by omega) (by omega)
  have h2 : -1073741823 * (v : Int) ≤ y * (v : Int) := Int.mul_le_mul_of_nonneg_right (by omega) (by omega)
  omega

set_option maxRecDepth 100000 in
set_option maxHeartbeats 4000000 in
theorem rdecode_any (l b n p R x m c lo hi : Nat) (E : Int) (A : Option Addr) (a : Nat → Int) (w : World) (hg : G8 n p R x) (hs : Rz w l b n p R x) (ha : Z.Sq .i64 w lo hi A m a) (hm : m ≤ 9223372036854775807) (hhi : hi ≤ w.heap.size) :
    Calls Try.prog 19 #[.pointer (some ⟨b, 0, none⟩), .slice A m c, .int .i64 E] w (RetDc w (VOk n p R m a E) n (decF (p ^ E.toNat) n x a)) := by
  obtain ⟨hn4, hn32⟩ := hg.nb
  have HG := Lib.hid hg
  have HS := Lib.hid hs
  have HA := Lib.hid ha
  have HC := Lib.hid (rvalid_any l b n p R x m c lo hi E A a w hs (by omega) hn32 (by have := hg.R7; omega) hg.p3 hg.p6 hg.odd hg.pR ha hm)
  clear hg hs ha
  go_enter Try.func19, Try.ntmps19
  go_wp2_with fail
  (with_reducible refine HC.out.mono ?_)
  rintro e w1 ⟨hw1, hh⟩
  subst hw1
  rcases hh with ⟨hok, rfl⟩ | ⟨hok, rfl⟩
  rotate_left
  · have HOK := Lib.hid hok
    clear hok
    go_wp2_with fail
    go_ret2
    exact ⟨Below.refl _ _, .inl ⟨HOK.out, rfl⟩⟩
  have HOK := Lib.hid hok
  obtain ⟨hE1, hE2, rfl, hbl⟩ := hok
  obtain ⟨e, rfl⟩ : ∃ e : Nat, E = (e : Int) := ⟨E.toNat, by omega⟩
  have he1 : 1 ≤ e := by omega
  have he2 : e ≤ R := by omega
  obtain ⟨hq3, hq31, hqo⟩ := HG.out.pe he1 he2
  have hxb := HG.out.xb
  have hpR := HG.out.pR
  have hxb2 : x ≤ 2147483647 := by omega
  have HM := Lib.hid (rmod8_any b p e w HS.out.cP (by have := HG.out.p3; omega) HG.out.p6 (by have := HG.out.R7; omega) hq31)
  obtain ⟨q, hq⟩ : ∃ q, p ^ e = q := ⟨_, rfl⟩
  rw [hq] at HM hq3 hq31 hqo
  have HQ : Hid (p ^ (e : Int).toNat = q) := Lib.hid (by rw [Int.toNat_natCast, hq])
  rw [Int.toNat_natCast, hq] at hbl
  have HBL := Lib.hid hbl
  clear hbl hE1 hE2 hq hxb hpR
  go_wp2_with (go_at_call 35; refine HM.out.mono ?_; rintro e w' ⟨rfl, hw⟩; subst hw)
  go_loopw [9, 10] (fun O J wr => ∃ (j : Nat) (A2 : Option Addr) (c2 : Nat), j ≤ m ∧ J = .int .i64 (j : Int) ∧ O = .slice A2 j c2 ∧ Z.Own .i64 wr w.heap.size 2 A2 j c2 (trZ j (decF q m x a)) ∧ Below w.heap.size w wr) (fun _ J _ => m - (intOf J).toNat)
  case atStart => exact ⟨0, none, 0, Nat.zero_le _, rfl, rfl, Z.Own.congr (Z.Own.nil _ _ _ _) (fun j => (if_neg (by omega)).symm), Below.refl _ _⟩
  case round =>
    obtain ⟨j, A2, c2, hj, rfl, rfl, hown, hbl⟩ := hrel
    have hzr := hbl.size
    have HOWN := Lib.hid hown
    have HBE := Lib.hid hbl
    clear hown
    have k0 := (HS.out.below hbl (Nat.le_refl _)).cN
    by_cases hjn : j < m
    · have e1 : decide ((j : Int) < (m : Int)) = true := decide_eq_true (by omega)
      have HEXP := Lib.hid (rexp_any b m j wr k0 hn4 hn32 hjn)
      obtain ⟨x3, hex⟩ : ∃ E, exN m j = E := ⟨_, rfl⟩
      have hEb : x3 < 2 * m := by rw [← hex]; exact (ex_fact HG.out.dim j hjn).2.1
      rw [hex] at HEXP
      have HEX := Lib.hid hex
      clear hbl hex
      go_wp2_with fail
      refine HEXP.out.mono ?_
      rintro e w1 ⟨rfl, d, rfl⟩
      have hb1 : Below wr.heap.size wr (wr.drewN d) := below_drewN (Below.refl _ _) d
      have hs1 := HS.out.below (HBE.out.trans (hb1.mono hzr)) (Nat.le_refl _)
      have HZ := Lib.hid (rzeta_any b m x x3 q (wr.drewN d) hs1.cN hs1.cX hn4 hn32 (by omega) hxb2 (by omega) hq31)
      rw [Nat.mod_eq_of_lt hEb] at HZ
      obtain ⟨pl, hpl⟩ : ∃ pl, x ^ x3 % q = pl := ⟨_, rfl⟩
      have hplb : pl < q := by rw [← hpl]; exact Nat.mod_lt _ (by omega)
      rw [hpl] at HZ
      have HPL : Hid (Cg q (pl : Int) ((x : Int) ^ x3)) := Lib.hid (by rw [← hpl]; exact Cg.powN x x3)
      have HS1 := Lib.hid hs1
      have k0 := hs1.cN
      have HB1 := Lib.hid (HBE.out.trans (hb1.mono hzr))
      have HOWN1 := Lib.hid (HOWN.out.below hb1 (Nat.le_refl _))
      have hz1 := HB1.out.size
      clear hs1 hpl
      go_wp2_with (go_at_call 37; refine HZ.out.mono ?_; rintro e w' ⟨rfl, hw⟩; subst hw)
      go_loop [12, 13, 14] (fun S P I => ∃ (i pw : Nat) (s : Int), S = .int .i64 s ∧ P = .int .i64 (pw : Int) ∧ I = .int .i64 (i : Int) ∧ i ≤ m ∧ pw < q ∧ -(q : Int) < s ∧ s < (q : Int) ∧ Cg q s (zsum (fun i => a i * (x : Int) ^ (i * x3)) i) ∧ Cg q (pw : Int) ((x : Int) ^ (i * x3))) (fun _ _ I => m - (intOf I).toNat)
      case atStart => exact ⟨0, 1, 0, rfl, rfl, rfl, Nat.zero_le _, by omega, by omega, by omega, Cg.refl _ _, Cg.of_eq (by simp)⟩
      case round =>
        obtain ⟨i, pw, s, rfl, rfl, rfl, him, hpw, hs1, hs2, hcg, hcp⟩ := hrel
        by_cases hin : i < m
        · have e2 : decide ((i : Int) < (m : Int)) = true := decide_eq_true (by omega)
          obtain ⟨gg, off, hAe, _, hgl, hcell⟩ := (HA.out.below HB1.out hhi).2 (by omega)
          have ka := hcell i hin
          have hyb := HBL.out i hin
          obtain ⟨y, hy⟩ : ∃ y, a i = y := ⟨_, rfl⟩
          rw [hy] at ka hyb
          obtain ⟨mm, hmm⟩ : ∃ mm, y * (pw : Int) = mm := ⟨_, rfl⟩
          have hmb := bal_mul hq31 hyb hpw
          rw [hmm] at hmb
          obtain ⟨t, ht, ht1, ht2, ht3⟩ := tm_fact (s + mm) (m := q) (by omega)
          obtain ⟨m2, hm2⟩ : ∃ m2, pw * pl = m2 := ⟨_, rfl⟩
          have hm2i : (pw : Int) * (pl : Int) = (m2 : Int) := by rw [← hm2]; simp
          have hm2b : m2 ≤ 4611686009837453316 := by rw [← hm2]; exact mul_lt_of hpw hplb hq31
          obtain ⟨p2, hp2⟩ : ∃ p2, m2 % q = p2 := ⟨_, rfl⟩
          have hp2i : (m2 : Int) % (q : Int) = (p2 : Int) := by rw [← hp2]; simp
          have hp2t : (m2 : Int).tmod (q : Int) = (p2 : Int) := by rw [Int.tmod_eq_emod_of_nonneg (by omega), hp2i]
          have hp2q : p2 < q := by rw [← hp2]; exact Nat.mod_lt _ (by omega)
          have HNX : Hid (Cg q t (zsum (fun i => a i * (x : Int) ^ (i * x3)) (i + 1)) ∧ Cg q (p2 : Int) ((x : Int) ^ ((i + 1) * x3))) := Lib.hid (by
            refine ⟨ht3.trans ?_, ?_⟩
            · rw [← hmm, ← hy]
              exact hcg.add ((Cg.refl q (a i)).mul hcp)
            · rw [← hp2]
              refine (Cg.modN _).trans ?_
              rw [← hm2, Int.natCast_mul, Nat.succ_mul, Int.pow_add]
              exact hcp.mul HPL.out)
          rw [hAe]
          have hq0 : ¬ q = 0 := by omega
          have bi1 : 0 ≤ (i : Int) := by omega
          clear hcell hy hcg hcp ht3 hm2 hp2 hAe hyb
          go_wp2
          go_round
          case rel => exact ⟨i + 1, p2, t, rfl, rfl, by go_num, hin, hp2q, ht1, ht2, HNX.out.1, HNX.out.2⟩
          case measure => simp only [intOf]; omega
        · obtain rfl : m = i := by omega
          have e2 : decide ((m : Int) < (m : Int)) = false := decide_eq_false (by omega)
          have HBA := Lib.hid (rbal8_any s q (wr.drewN d) hq3 hq31 hqo)
          have hbv : bal q s = decF q m x a j := by
            unfold decF decZ
            rw [if_pos hjn, HEX.out]
            exact bal_congr hcg
          rw [hbv] at HBA
          obtain ⟨v, hv⟩ : ∃ v, decF q m x a j = v := ⟨_, rfl⟩
          rw [hv] at HBA
          have HV : Hid (Value.int .i64 v = .int .i64 (decF q m x a j)) := Lib.hid (by rw [hv])
          clear hcg hbv hv
          go_wp2_with (first | (go_at_call 22; refine HBA.out.mono ?_; rintro e w' ⟨rfl, hw⟩; subst hw) | (at_builtin; refine Z.wpl_append rfl _ _ _ rfl e64s rfl (HOWN1.out.alloc _) rfl (Z.sq_one (x := decF q m x a j) (lo := 0) (hi := (wr.drewN d).heap.size + 1) HV.out (Nat.zero_le _) (Nat.lt_succ_self _)) (trZ (j + 1) (decF q m x a)) (fun k hk => trZ_lt hk) trZ_add (by unfold maxLen; omega) (by omega) (by simp; omega) ?_; intro A3 c3 w3 hown3 hg3 hb3 hat3))
          go_roundw
          case rel => exact ⟨j + 1, A3, c3, hjn, by go_num, rfl, hown3, (HB1.out.alloc hz1 _).trans hb3⟩
          case measure => simp only [intOf]; omega
    · obtain rfl : m = j := by omega
      have e1 : decide ((m : Int) < (m : Int)) = false := decide_eq_false (by omega)
      have HO : Hid (Z.Own .i64 wr w.heap.size 2 A2 m c2 (decF q m x a)) := Lib.hid (Z.Own.congr HOWN.out fun k => by
        unfold trZ
        split
        · rfl
        · unfold decF; rw [if_neg (by omega)])
      clear hbl
      go_wp2
      go_ret2
      exact ⟨HBE.out, .inr ⟨HOK.out, A2, c2, rfl, by rw [HQ.out]; exact HO.out.sq (Nat.le_refl _)⟩⟩
end Go.Proofs.Ytcnkddoipmaddaa
