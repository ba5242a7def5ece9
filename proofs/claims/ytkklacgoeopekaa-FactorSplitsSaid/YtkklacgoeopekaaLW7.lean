/- The law FactorPowers of layer 7. -/
import Derived.Test.YtkklacgoeopekaaAw7
import Derived.Test.YtkklacgoeopekaaSqZ2
import Derived.Test.YtkklacgoeopekaaRMod7
namespace Go.Proofs.Ytkklacgoeopekaa
open Go.RowKit
set_option linter.unusedVariables false

theorem negpow (i : Nat) : (-1 : Int) ^ (2 * i + 1) = -1 := by
  induction i with
  | zero => rfl
  | succ i ih =>
    rw [show 2 * (i + 1) + 1 = 2 * i + 1 + 1 + 1 by omega, Int.pow_succ, Int.pow_succ, ih]
    rfl
theorem odd_root {M x k : Nat} (hM : 1 < M) (h : Cg M (1 + (x : Int) ^ k) 0) (i : Nat) : (x ^ (2 * i + 1) % M) ^ k % M = M - 1 := by
  rw [← Nat.pow_mod, ← Nat.pow_mul, Nat.mul_comm (2 * i + 1) k, Nat.pow_mul]
  have h1 : Cg M ((x : Int) ^ k) (-1) := by
    obtain ⟨c, hc⟩ := h
    exact ⟨c, by omega⟩
  have h2 := h1.pow (2 * i + 1)
  rw [negpow] at h2
  obtain ⟨c, hc⟩ := h2
  obtain ⟨N, hN⟩ : ∃ N, (x ^ k) ^ (2 * i + 1) = N := ⟨_, rfl⟩
  have hNi : ((x : Int) ^ k) ^ (2 * i + 1) = (N : Int) := by rw [← hN]; simp
  rw [hN]
  rw [hNi] at hc
  have e1 : (N : Int) = ((M : Int) - 1) + (M : Int) * (c - 1) := by rw [Int.mul_sub, Int.mul_one]; omega
  have e2 : (N : Int) % (M : Int) = (M : Int) - 1 := by rw [e1, Int.add_mul_emod_self_left, Int.emod_eq_of_lt (by omega) (by omega)]
  omega
theorem z_next (M x i : Nat) : x ^ (2 * i + 1) % M * x % M * x % M = x ^ (2 * (i + 1) + 1) % M := by
  rw [show 2 * (i + 1) + 1 = 2 * i + 1 + 1 + 1 by omega, Nat.pow_succ x (2 * i + 1 + 1), Nat.pow_succ x (2 * i + 1), Nat.mod_mul_mod, Nat.mul_assoc (x ^ (2 * i + 1) % M), Nat.mod_mul_mod, Nat.mul_assoc]
theorem p_next (M z q : Nat) : z ^ q % M * z % M = z ^ (q + 1) % M := by rw [Nat.mod_mul_mod, Nat.pow_succ]
def sF (x p i : Nat) : Nat → Nat := fun j => if j < i then x ^ (2 * j + 1) % p else 0
theorem sF_add (x p i j : Nat) : sF x p (i + 1) (i + j) = oneF (x ^ (2 * i + 1) % p) j := by
  unfold sF oneF
  by_cases hj : j = 0
  · subst hj
    rw [if_pos (by omega), if_pos rfl]
    rfl
  · rw [if_neg (by omega), if_neg hj]
theorem e64u7 : ElemOf Try.prog 48 32 .u64 8 := ⟨Try.underlying48, by kernel_rfl⟩
theorem fr_down {k p R x y : Nat} (hk : 1 ≤ k) (hkp : k < p) (h : FrIs k p (R + 1 + 1) x) (h' : FrIs k p (R + 1) y) : x % p ^ (R + 1) = y := by
  obtain ⟨ψ, hl, hrt, hlt, hx1, hx2, hx3⟩ := h
  refine FrIs.uniq (by omega) hk hkp ⟨ψ, hl, hrt, hlt, Nat.mod_lt _ (Nat.pow_pos (by omega)), ?_, ?_⟩ h'
  · rw [Nat.mod_mod_of_dvd _ ⟨p ^ R, by rw [Nat.pow_succ, Nat.mul_comm]⟩]; exact hx2
  · rw [pv_cyc hk] at hx3 ⊢
    have h1 : Cg (p ^ (R + 1)) (1 + (x : Int) ^ k) 0 := by
      obtain ⟨c, hc⟩ := hx3
      refine ⟨(p : Int) * c, ?_⟩
      rw [hc, Nat.pow_succ p (R + 1)]
      simp only [Int.natCast_mul]
      rw [Int.mul_assoc]
    exact ((Cg.refl _ 1).add ((Cg.modN x).pow k)).trans h1

set_option maxRecDepth 100000 in
set_option maxHeartbeats 40000000 in
theorem factorPowers_any (n : Int) (p : Nat) (r : Int) (w : World) (hp : p ≤ 4294967295) (hr : r ≤ 9223372036854775807) : Calls Try.prog 9 #[.int .i64 n, .int .u32 p, .int .i64 r] w (RetV w (.bool true)) := by
  have H1 := Lib.hid (froot_any n p r w hp hr)
  go_enter Try.func9, Try.ntmps9
  go_wp2_with fail
  refine H1.out.mono ?_
  rintro e w1 ⟨hb1, hh⟩
  have HB1 := Lib.hid hb1
  clear hb1 H1
  rcases hh with ⟨_, rfl⟩ | ⟨_, _, rfl⟩ | ⟨hok, x, hx, rfl⟩
  · go_wp2_with fail
    refine (awake7_any w1).mono ?_
    rintro e w2 ⟨rfl, hb2⟩
    go_wp2_with fail
    go_ret
    exact ⟨rfl, HB1.out.trans (hb2.mono HB1.out.size)⟩
  · go_wp2_with fail
    refine (awake7_any w1).mono ?_
    rintro e w2 ⟨rfl, hb2⟩
    go_wp2_with fail
    go_ret
    exact ⟨rfl, HB1.out.trans (hb2.mono HB1.out.size)⟩
  obtain ⟨k, rfl, hk2, hk32⟩ := dimF_nat hok.1.1
  have hpl := hok.2.1
  obtain ⟨R, rfl⟩ : ∃ R : Nat, r = (R : Int) := ⟨r.toNat, by have := hpl.2.2.2.1; omega⟩
  have hR1 : 1 ≤ R := by have := hpl.2.2.2.1; omega
  have hM := hpl.2.2.2.2
  have hpr := hpl.2.2.1
  have hp3 := hpl.1
  have hp6 := hpl.2.1
  have hmod := hok.2.2
  rw [Int.toNat_natCast] at hx hM hmod
  rw [Int.toNat_natCast] at hx
  have hkp : k < p := by
    rcases Nat.lt_or_ge p (2 * k) with h5 | h5
    · rw [Nat.mod_eq_of_lt h5] at hmod
      omega
    · omega
  have HX := Lib.hid hx
  obtain ⟨ψ, hl, hrt, hψp, hx1, hx2, hx3⟩ := hx
  rw [pv_cyc (by omega)] at hx3
  have hpM : p ∣ p ^ R := by
    obtain ⟨q, rfl⟩ : ∃ q, R = q + 1 := ⟨R - 1, by omega⟩
    exact ⟨p ^ q, by rw [Nat.pow_succ, Nat.mul_comm]⟩
  have hpleM : p ≤ p ^ R := Nat.le_of_dvd (Nat.pow_pos (by omega)) hpM
  have HMD := Lib.hid (rmodulus_any p (R : Int) w1 hp)
  have HDM := Lib.hid (fun W : World => rdim_any (k : Int) W)
  rw [show dimB (k : Int) = true from dimB_yes.2 hok.1.1] at HDM
  have HOK := Lib.hid hok
  have HPL := Lib.hid hpl
  have HZK := Lib.hid (fun i => odd_root (M := p ^ R) (by omega) hx3 i)
  have HDIS : Hid (∀ i j, j < i → i < k → x ^ (2 * j + 1) % p ≠ x ^ (2 * i + 1) % p) := Lib.hid fun i j h1 h2 => by
    rw [Nat.pow_mod x, hx2, Nat.pow_mod x (2 * i + 1), hx2]
    exact Ordr.inj hpr hrt.ord (by omega) (by omega)
  have HRES : Hid (∀ i, x ^ (2 * i + 1) % p ^ R % p = x ^ (2 * i + 1) % p) := Lib.hid fun i => Nat.mod_mod_of_dvd _ hpM
  have HNX := Lib.hid (fun i => z_next (p ^ R) x i)
  have HPX := Lib.hid (fun z q => p_next (p ^ R) z q)
  have HML : Hid (∀ y, y % p ^ R < p ^ R) := Lib.hid fun y => Nat.mod_lt _ (by omega)
  have HPD : Hid (R = 1 ∨ ∃ q, R = q + 1 + 1 ∧ p ^ R / p = p ^ (q + 1)) := Lib.hid (by
    by_cases h : R = 1
    · exact .inl h
    · obtain ⟨q, rfl⟩ : ∃ q, R = q + 1 + 1 := ⟨R - 2, by omega⟩
      exact .inr ⟨q, rfl, by rw [Nat.pow_succ p (q + 1), Nat.mul_div_cancel _ (by omega)]⟩)
  have HX1 : Hid (x ^ (2 * 0 + 1) % p ^ R = x) := Lib.hid (by rw [Nat.mul_zero, Nat.zero_add, Nat.pow_one, Nat.mod_eq_of_lt hx1])
  obtain ⟨M, hMe⟩ : ∃ M, p ^ R = M := ⟨_, rfl⟩
  have HME := Lib.hid hMe
  rw [hMe] at hx1 hM hpleM HZK HRES HNX HPX HML HPD HX1
  have hm0 : ¬ M = 0 := by omega
  have hp0 : ¬ p = 0 := by omega
  have c1 : decide ((x : Int) ≥ (M : Int)) = false := decide_eq_false (by omega)
  have c2 : decide ((M : Int) ≤ (x : Int)) = false := decide_eq_false (by omega)
  have c3 : decide (M ≤ x) = false := decide_eq_false (by omega)
  clear hok hpl hl hrt hx2 hx3 hpM hmod hpr hMe
  go_wp2_with fail
  refine HMD.out.mono ?_
  rintro e w2 ⟨hb2, hh⟩
  rcases hh with ⟨_, rfl⟩ | ⟨h, _⟩
  rotate_left
  · exact absurd HPL.out h
  rw [Int.toNat_natCast, HME.out]
  have HB2 := Lib.hid (HB1.out.trans (hb2.mono HB1.out.size))
  clear hb2 HMD
  go_wp2_with (go_at_call 13; refine (HDM.out _).mono ?_; rintro e w' ⟨rfl, hw⟩; subst hw)
  go_loopw [11, 12, 13] (fun S Z I w' => ∃ (i : Nat) (A : Option Addr) (c : Nat), I = .int .i64 (i : Int) ∧ i ≤ k ∧ S = .slice A i c ∧ Z = .int .u64 ((x ^ (2 * i + 1) % M : Nat) : Int) ∧ Own .u64 w' w2.heap.size 32 A i c (sF x p i) ∧ Below w2.heap.size w2 w') (fun _ _ I _ => k - (intOf I).toNat)
  case atStart => exact ⟨0, none, 0, rfl, Nat.zero_le _, rfl, by rw [HX1.out], (Own.nil _ _ _ _).congr (fun j => by unfold sF; rw [if_neg (by omega)]), Below.refl _ _⟩
  case round =>
    obtain ⟨i, A, c, rfl, hi, rfl, rfl, hown, hbl⟩ := hrel
    have HOW := Lib.hid hown
    have HBL := Lib.hid hbl
    have hzr := hbl.size
    clear hown hbl
    by_cases hik : i < k
    · have f1 : decide ((i : Int) < (k : Int)) = true := decide_eq_true (by omega)
      have hzl := HML.out (x ^ (2 * i + 1))
      have HZF := Lib.hid (HZK.out i)
      have HRS := Lib.hid (HRES.out i)
      have HNXi := Lib.hid (HNX.out i)
      obtain ⟨z, hz⟩ : ∃ z, x ^ (2 * i + 1) % M = z := ⟨_, rfl⟩
      rw [hz] at hzl HZF HRS HNXi ⊢
      clear hz
      have HPZ := Lib.hid (HPX.out z)
      go_wp2
      go_loopw [14, 15] (fun P Q w' => ∃ q : Nat, P = .int .u64 ((z ^ q % M : Nat) : Int) ∧ Q = .int .i64 (q : Int) ∧ q ≤ k ∧ wr = w') (fun _ Q _ => k - (intOf Q).toNat)
      case atStart => exact ⟨0, by rw [Nat.pow_zero, Nat.mod_eq_of_lt (by omega)]; rfl, rfl, Nat.zero_le _, by trivial⟩
      case round =>
        obtain ⟨q, rfl, rfl, hq, rfl⟩ := hrel
        by_cases hqk : q < k
        · have f2 : decide ((q : Int) < (k : Int)) = true := decide_eq_true (by omega)
          have hyl := HML.out (z ^ q)
          have HY := Lib.hid (HPZ.out q)
          obtain ⟨y, hy⟩ : ∃ y, z ^ q % M = y := ⟨_, rfl⟩
          rw [hy] at hyl HY ⊢
          obtain ⟨yz, hyz⟩ : ∃ yz, y * z = yz := ⟨_, rfl⟩
          have hyzi : (y : Int) * (z : Int) = (yz : Int) := by rw [← hyz]; simp
          have hyzb : yz ≤ 2147483647 * 2147483647 := by rw [← hyz]; exact Nat.mul_le_mul (by omega) (by omega)
          obtain ⟨u, hu⟩ : ∃ u, yz % M = u := ⟨_, rfl⟩
          have hui : (yz : Int) % (M : Int) = (u : Int) := by rw [← hu]; simp
          have hut : (yz : Int).tmod (M : Int) = (u : Int) := by rw [Int.tmod_eq_emod_of_nonneg (by omega), hui]
          have HU : Hid (((u : Nat) : Int) = ((z ^ (q + 1) % M : Nat) : Int)) := Lib.hid (by rw [← HY.out, hyz, hu])
          clear hy hyz hu
          go_wp2
          go_roundw
          case rel => exact ⟨q + 1, by rw [HU.out], by go_num, hqk, by trivial⟩
          case measure => simp only [intOf]; omega
        · obtain rfl : k = q := by omega
          have f2 : decide ((k : Int) < (k : Int)) = false := decide_eq_false (by omega)
          rw [HZF.out]
          have hmi : ((M - 1 : Nat) : Int) = (M : Int) - 1 := by omega
          rw [hmi]
          have f3 : (((M : Int) - 1) != ((M : Int) - 1)) = false := by simp
          obtain ⟨rz, hrz⟩ : ∃ rz, z % p = rz := ⟨_, rfl⟩
          have hrzi : (z : Int) % (p : Int) = (rz : Int) := by rw [← hrz]; simp
          have hrzt : (z : Int).tmod (p : Int) = (rz : Int) := by rw [Int.tmod_eq_emod_of_nonneg (by omega), hrzi]
          have HRZ : Hid (rz = x ^ (2 * i + 1) % p) := Lib.hid (by rw [← hrz]; exact HRS.out)
          have HND : Hid (∀ j, j < i → sF x p i j ≠ rz) := Lib.hid fun j hj => by
            unfold sF
            rw [if_pos hj, HRZ.out]
            exact HDIS.out i j hj hik
          clear hrz
          go_wp2
          go_loopw [16] (fun Q w' => ∃ (q d : Nat), Q = .int .i64 (q : Int) ∧ q ≤ i ∧ w' = wr.drewN d) (fun Q _ => i - (intOf Q).toNat)
          case atStart => exact ⟨0, 0, rfl, Nat.zero_le _, rfl⟩
          case round =>
            obtain ⟨q, d, rfl, hq, rfl⟩ := hrel
            by_cases hqi : q < i
            · have f4 : decide ((q : Int) < (i : Int)) = true := decide_eq_true (by omega)
              obtain ⟨g, o, hA, _, hg, hc⟩ := (HOW.out.sq (Nat.zero_le _)).2 (by omega)
              have k1 := hc q hqi
              have hnd := HND.out q hqi
              obtain ⟨v, hv⟩ : ∃ v, sF x p i q = v := ⟨_, rfl⟩
              rw [hv] at k1 hnd
              rw [hA]
              have f5 : ((v : Int) == (rz : Int)) = false := by rw [beq_eq_false_iff_ne]; omega
              have f6 : (v == rz) = false := by rw [beq_eq_false_iff_ne]; omega
              have k1d : ∀ t, (wr.drewN t).cell? ⟨g, o + q, none⟩ = some (.int .u64 (v : Int)) := fun t => k1
              have k2d := k1d d
              have i0 : 0 ≤ (q : Int) := by omega
              have i1 : (q : Int) < (i : Int) := by omega
              have f7 : ¬ v = rz := hnd
              clear hc hv hA k1d
              go_wp2
              go_quiet (fail)
              go_wp2
              go_roundw
              case rel => exact ⟨q + 1, _, by go_num, hqi, by first | rfl | exact (World.drewN_drewN _ _ _)⟩
              case measure => simp only [intOf]; omega
            · obtain rfl : i = q := by omega
              have f4 : decide ((i : Int) < (i : Int)) = false := decide_eq_false (by omega)
              have HOD : Hid (Own .u64 (wr.drewN d) w2.heap.size 32 A i c (sF x p i)) := Lib.hid (HOW.out)
              have HBD := Lib.hid (below_drewN HBL.out d)
              obtain ⟨zx, hzx⟩ : ∃ zx, z * x = zx := ⟨_, rfl⟩
              have hzxi : (z : Int) * (x : Int) = (zx : Int) := by rw [← hzx]; simp
              have hzxb : zx ≤ 2147483647 * 2147483647 := by rw [← hzx]; exact Nat.mul_le_mul (by omega) (by omega)
              obtain ⟨u, hu⟩ : ∃ u, zx % M = u := ⟨_, rfl⟩
              have hui : (zx : Int) % (M : Int) = (u : Int) := by rw [← hu]; simp
              have hut : (zx : Int).tmod (M : Int) = (u : Int) := by rw [Int.tmod_eq_emod_of_nonneg (by omega), hui]
              have hul : u < M := by rw [← hu]; exact HML.out zx
              obtain ⟨ux, hux⟩ : ∃ ux, u * x = ux := ⟨_, rfl⟩
              have huxi : (u : Int) * (x : Int) = (ux : Int) := by rw [← hux]; simp
              have huxb : ux ≤ 2147483647 * 2147483647 := by rw [← hux]; exact Nat.mul_le_mul (by omega) (by omega)
              obtain ⟨v, hv⟩ : ∃ v, ux % M = v := ⟨_, rfl⟩
              have hvi : (ux : Int) % (M : Int) = (v : Int) := by rw [← hv]; simp
              have hvt : (ux : Int).tmod (M : Int) = (v : Int) := by rw [Int.tmod_eq_emod_of_nonneg (by omega), hvi]
              have HV : Hid (((v : Nat) : Int) = ((x ^ (2 * (i + 1) + 1) % M : Nat) : Int)) := Lib.hid (by rw [← HNXi.out, hzx, hu, hux, hv])
              have HVR : Hid (Value.int .u64 (rz : Int) = .int .u64 ((rz : Nat) : Int)) := Lib.hid rfl
              have HSA : Hid (∀ j, sF x p (i + 1) (i + j) = oneF rz j) := Lib.hid fun j => by rw [HRZ.out]; exact sF_add x p i j
              clear hzx hu hux hv
              go_wp2_with (at_builtin; refine wpl_append rfl _ _ _ rfl e64u7 rfl (HOD.out.alloc _) rfl (sq_one (x := rz) (lo := 0) HVR.out (Nat.zero_le _) (Nat.lt_succ_self _)) (sF x p (i + 1)) (fun j hj => by unfold sF; rw [if_pos (by omega), if_pos hj]) HSA.out (by unfold maxLen; omega) (by omega) (by simp; omega) ?_; intro A3 c3 w3 hown3 hg3 hb3 hat3)
              go_roundw
              case rel => exact ⟨i + 1, A3, c3, by go_num, hik, rfl, by rw [HV.out], hown3, HBD.out.trans (((Below.refl _ (wr.drewN d)).alloc (show w2.heap.size ≤ wr.heap.size from hzr) _).trans hb3)⟩
              case measure => simp only [intOf]; omega
    · obtain rfl : k = i := by omega
      have f1 : decide ((k : Int) < (k : Int)) = false := decide_eq_false (by omega)
      have HBF := Lib.hid (HB2.out.trans (HBL.out.mono HB2.out.size))
      rcases HPD.out with hR | ⟨q, hR, hdiv⟩
      · subst hR
        go_wp2_with fail
        refine (awake7_any wr).mono ?_
        rintro e w5 ⟨rfl, hb5⟩
        go_wp2_with fail
        go_ret
        exact ⟨rfl, HBF.out.trans (hb5.mono HBF.out.size)⟩
      · subst hR
        have f2 : ((((q + 1 + 1 : Nat) : Int)) == 1) = false := by rw [beq_eq_false_iff_ne]; omega
        have f3 : (((q : Int) + 1 + 1) == 1) = false := by rw [beq_eq_false_iff_ne]; omega
        have hrq : ((q : Int) + 1 + 1) - 1 = (((q + 1 : Nat)) : Int) := by omega
        have hrq2 : (((q + 1 + 1 : Nat) : Int)) - 1 = (((q + 1 : Nat)) : Int) := by omega
        have HR2 : Hid (∀ z : Int, z = (((q + 1 : Nat)) : Int) → Calls Try.prog 10 #[.int .i64 (k : Int), .int .u32 p, .int .i64 z] wr (RetFr wr (k : Int) p (((q + 1 : Nat)) : Int))) := Lib.hid fun z hz => by
          subst hz
          exact froot_any (k : Int) p _ wr hp (by omega)
        have HPL2 : Hid (Pl p (((q + 1 : Nat)) : Int)) := Lib.hid (by
          have h := HPL.out
          refine ⟨h.1, h.2.1, h.2.2.1, by omega, ?_⟩
          have h2 := h.2.2.2.2
          rw [Int.toNat_natCast] at h2 ⊢
          exact Nat.le_trans (Nat.pow_le_pow_right (by omega) (by omega)) h2)
        obtain ⟨D, hD⟩ : ∃ D, p ^ (q + 1) = D := ⟨_, rfl⟩
        have hDp : 0 < D := by rw [← hD]; exact Nat.pow_pos (by omega)
        have hD0 : ¬ D = 0 := by omega
        rw [hD] at hdiv
        have hdi : (M : Int) / (p : Int) = (D : Int) := by rw [← hdiv]; simp
        have hdt : (M : Int).tdiv (p : Int) = (D : Int) := by rw [Int.tdiv_eq_ediv_of_nonneg (by omega), hdi]
        have HD := Lib.hid hD
        clear hdiv hD
        go_wp2_with fail
        refine (HR2.out _ (by omega)).mono ?_
        rintro e w5 ⟨hb5, hh⟩
        rcases hh with ⟨h, _⟩ | ⟨_, h, _⟩ | ⟨_, y, hy, rfl⟩
        · exact absurd ⟨HOK.out.1, HPL2.out⟩ h
        · exact absurd HOK.out.2.2 h
        rw [Int.toNat_natCast, Int.toNat_natCast] at hy
        have hxy := fr_down (by omega) hkp HX.out hy
        rw [HD.out] at hxy
        have hxi : (x : Int) % (D : Int) = (y : Int) := by rw [← hxy]; simp
        have hxt : (x : Int).tmod (D : Int) = (y : Int) := by rw [Int.tmod_eq_emod_of_nonneg (by omega), hxi]
        have HB5 := Lib.hid (HBF.out.trans (hb5.mono HBF.out.size))
        have f9 : ((y : Int) == (y : Int)) = true := by simp
        have hyD : y < D := by rw [← hxy]; exact Nat.mod_lt _ hDp
        have hDM : D ≤ M := by
          have h1 : D * 1 ≤ D * p := Nat.mul_le_mul_left D (by omega)
          have h2 := HME.out
          rw [Nat.pow_succ, HD.out] at h2
          omega
        clear hb5 hy hxy
        go_wp2_with fail
        refine (awake7_any w5).mono ?_
        rintro e w6 ⟨rfl, hb6⟩
        go_wp2_with fail
        go_ret
        exact ⟨rfl, HB5.out.trans (hb6.mono HB5.out.size)⟩
end Go.Proofs.Ytkklacgoeopekaa
