/- The contract of factor.Root. -/
/- The contract of the reference's at: a polynomial's value modulo m. -/
/- SIGNED numbers: Sq, Own, make and append once more, for functions into Int (printed by gen/lawsz.py). -/
/- The contract of the reference's derivative. -/
/- The contracts of the reference's Prime and Modulus of layer 7. -/
import Derived.Test.YtkklacgoeopekaaDivisors
import Derived.Test.YtkklacgoeopekaaAlg
import Derived.Test.YtkklacgoeopekaaRoot
import Derived.Test.YtkklacgoeopekaaRet
namespace Go.Proofs.Ytkklacgoeopekaa
open Go.RowKit
set_option linter.unusedVariables false

/-- x^n + 1 -/
def cycN (n j : Nat) : Nat := if j = n then 1 else if j = 0 then 1 else 0
def cycF (n j : Nat) : Int := ((cycN n j : Nat) : Int)
theorem pv_cyc {n : Nat} (hn : 1 ≤ n) (x : Int) : pv (cycF n) (n + 1) x = 1 + x ^ n := by
  show zsum _ n + cycF n n * x ^ n = _
  rw [zsum_one (j := 0) n (by omega) (fun i hi h0 => by unfold cycF cycN; rw [if_neg (by omega), if_neg h0]; simp)]
  unfold cycF cycN
  rw [if_neg (by omega), if_pos rfl, if_pos rfl]
  simp
theorem dv_cyc {n : Nat} (hn : 1 ≤ n) (x : Int) : dv (cycF n) (n + 1) x = (n : Int) * x ^ (n - 1) := by
  show zsum _ n + cycF n n * ((n : Int) * x ^ (n - 1)) = _
  rw [zsum_zero n (fun i hi => by
    rcases Nat.eq_zero_or_pos i with h | h
    · subst h; simp
    · unfold cycF cycN; rw [if_neg (by omega), if_neg (by omega)]; simp)]
  unfold cycF cycN
  rw [if_pos rfl]
  simp
theorem cyc_pre {n p ψ : Nat} (hr : Rt p n ψ) (hn : 1 ≤ n) (hnp : n < p) : LfPre (cycF n) (n + 1) p ψ := by
  have hp2 := hr.pr.1
  have h1 : Cg p (pv (cycF n) (n + 1) ψ) 0 := by
    rw [pv_cyc hn]
    exact ((Cg.refl p 1).add hr.neg).trans (Cg.of_eq (by omega))
  refine ⟨?_, fun h0 => ?_⟩
  · exact Cg.eq_nat ((vN_cg (by omega)).trans h1) (vN_lt (by omega)) (by omega)
  · have h2 : Cg p (dv (cycF n) (n + 1) ψ) 0 := by
      have := dN_cg (a := cycF n) (n := n + 1) (x := ψ) (m := p) (by omega)
      rw [h0] at this
      exact this.symm
    rw [dv_cyc hn] at h2
    have h3 : ¬ Cg p (n : Int) 0 := fun h => by
      have := Cg.eq_nat (a := n) (b := 0) h hnp (by omega)
      omega
    have h4 := Cg.cancel hr.pr h2 h3
    have h5 := h4.mul (Cg.refl p (ψ : Int))
    rw [← Int.pow_succ, show (n - 1).succ = n by omega, Int.zero_mul] at h5
    have h6 := hr.neg.symm.trans h5
    have h7 : Cg p 1 0 := by
      have := h6.neg
      simpa using this
    have := Cg.eq_nat (q := p) (a := 1) (b := 0) h7 (by omega) (by omega)
    omega
/-- what Root of factor leaves: the lift of the least root -/
def FrOk (n : Int) (p : Nat) (r : Int) : Prop := DgOk n p ∧ Pl p r ∧ p % (2 * n.toNat) = 1
def FrIs (n p r x : Nat) : Prop := ∃ ψ, Least p (2 * n) ψ ∧ Rt p n ψ ∧ ψ < p ∧ Lf (cycF n) (n + 1) p r ψ x
def RetFr (w : World) (n : Int) (p : Nat) (r : Int) (e : Ending) (w' : World) : Prop :=
  Below w.heap.size w w' ∧ ((¬ (DgOk n p ∧ Pl p r) ∧ e = .returned (.tuple #[.int .u32 0, .int .i64 2])) ∨ ((DgOk n p ∧ Pl p r) ∧ p % (2 * n.toNat) ≠ 1 ∧ e = .returned (.tuple #[.int .u32 0, .int .i64 4])) ∨
    (FrOk n p r ∧ ∃ x : Nat, FrIs n.toNat p r.toNat x ∧ e = .returned (.tuple #[.int .u32 (x : Int), .int .i64 0])))
theorem e64s : ElemOf Try.prog 39 2 .i64 8 := ⟨Try.underlying39, by kernel_rfl⟩

set_option maxRecDepth 100000 in
set_option maxHeartbeats 4000000 in
theorem froot_any (n : Int) (p : Nat) (r : Int) (w : World) (hp : p ≤ 4294967295) (hr : r ≤ 9223372036854775807) : Calls Try.prog 10 #[.int .i64 n, .int .u32 p, .int .i64 r] w (RetFr w n p r) := by
  have HD := Lib.hid (degree_any n p w hp)
  go_enter Try.func10, Try.ntmps10
  go_wp2_with fail
  (with_reducible refine HD.out.mono ?_)
  rintro e w1 ⟨hb1, hh⟩
  have hz1 := hb1.size
  rcases hh with ⟨hno, rfl⟩ | ⟨hdg, d, hdd, rfl⟩
  · have HN : Hid (¬ (DgOk n p ∧ Pl p r)) := Lib.hid fun h => hno h.1
    clear hno
    go_wp2_with fail
    go_ret2
    exact ⟨hb1, .inl ⟨HN.out, rfl⟩⟩
  have HP := Lib.hid (plain_any p r w1 hp hr)
  have HDG := Lib.hid hdg
  clear hdd hdg
  go_wp2_with fail
  (with_reducible refine HP.out.mono ?_)
  rintro e w2 ⟨hb2, hh⟩
  have hb12 := hb1.trans (hb2.mono hz1)
  rcases hh with ⟨hpl, rfl⟩ | ⟨hno, rfl⟩
  rotate_left
  · have HN : Hid (¬ (DgOk n p ∧ Pl p r)) := Lib.hid fun h => hno h.2
    clear hno
    go_wp2_with fail
    go_ret2
    exact ⟨hb12, .inl ⟨HN.out, rfl⟩⟩
  have HPL := Lib.hid hpl
  obtain ⟨k, rfl, hk2, hk32⟩ := dimF_nat HDG.out.1
  have hp3 := hpl.1
  have hp6 := hpl.2.1
  obtain ⟨m, hm⟩ : ∃ m, p % (2 * k) = m := ⟨_, rfl⟩
  have hmi : (p : Int) % (2 * (k : Int)) = (m : Int) := by rw [← hm]; simp
  have hmt : (p : Int).tmod (2 * (k : Int)) = (m : Int) := by rw [Int.tmod_eq_emod_of_nonneg (by omega), hmi]
  have hmb : m < 2 * k := by rw [← hm]; exact Nat.mod_lt _ (by omega)
  have HM := Lib.hid hm
  clear hpl hm
  by_cases hm1 : m = 1
  rotate_left
  · have f1 : ((m : Int) != 1) = true := by simp; omega
    have HN : Hid (p % (2 * (k : Int).toNat) ≠ 1) := Lib.hid (by rw [Int.toNat_natCast, HM.out]; exact hm1)
    clear hm1
    go_wp2_with fail
    go_ret2
    exact ⟨hb12, .inr (.inl ⟨⟨HDG.out, HPL.out⟩, HN.out, rfl⟩)⟩
  subst hm1
  have f1 : (((1 : Nat) : Int) != 1) = false := by simp
  have hz2 := hb12.size
  have HR := Lib.hid (root_any (2 * k) p w2 (by omega) (by omega))
  have hcast : (((2 * k : Nat) : Nat) : Int) = 2 * (k : Int) := by simp
  rw [hcast] at HR
  clear hcast
  go_wp2_with fail
  (with_reducible refine HR.out.mono ?_)
  rintro e w3 ⟨v, E, rfl, hrr, hb3⟩
  have hb13 := hb12.trans (hb3.mono hz2)
  have hz3 := hb3.size
  have hpp := HPL.out.2.2.1
  have hdv : 2 * k ∣ p - 1 := ⟨p / (2 * k), by have := HM.out; have := Nat.div_add_mod p (2 * k); omega⟩
  have hkp : k < p := by have := Nat.le_of_dvd (by omega) hdv; omega
  obtain ⟨rfl, hle⟩ : E = 0 ∧ Least p (2 * k) v := by
    have hpre : RootPre (2 * k) p := ⟨by omega, by omega, hpp, by omega⟩
    rcases hrr with ⟨h1, _⟩ | ⟨_, h1, _⟩ | ⟨_, _, h1, _⟩ | ⟨_, _, _, h2, h3⟩
    · exact absurd hpre h1
    · omega
    · exact absurd hdv h1
    · exact ⟨h2, h3⟩
  have hrt : Rt p k v := ⟨hpp, by omega, hle.1⟩
  have hvp := hle.2.1
  have hpre := cyc_pre hrt (by omega) hkp
  have HIS : Hid (∀ x, Lf (cycF k) (k + 1) p r.toNat v x → FrIs k p r.toNat x) := Lib.hid (fun x h => ⟨v, hle, hrt, hvp, h⟩)
  have HPRE := Lib.hid hpre
  have HN1 : Hid ((k : Int) + 1 = ((k + 1 : Nat) : Int)) := Lib.hid (by omega)
  clear hrt hpre hle hrr hdv hpp
  have hk1 : 0 < k + 1 := by omega
  go_wp2_with (at_make; refine wpl_make rfl _ _ _ rfl e64s .i64 .i64 _ _ (k + 1) rfl rfl HN1.out HN1.out (by omega) (by unfold maxLen; omega) ?_; intro w4 hr4 hb4 hs4; have k4 := hr4.cell (show 0 < k + 1 by omega); have f4 := hr4.frozen 0; have k5 := hr4.cell (show k < k + 1 by omega); have f5 := hr4.frozen k; simp only [ku] at k4 k5; have HR4 := Lib.hid hr4; clear hr4)
  have hr6 := rowIs_set_ku (rowIs_set_ku HR4.out 0 1) k 1
  have hsi : Si ((w4.setCell ⟨w3.heap.size, 0, none⟩ (.int .i64 1)).setCell ⟨w3.heap.size, k, none⟩ (.int .i64 1)) 0 _ (some ⟨w3.heap.size, 0, none⟩) (k + 1) (cycF k) :=
    ⟨fun j hj => by unfold cycF cycN; rw [if_neg (by omega), if_neg (by omega)]; rfl, fun _ => ⟨w3.heap.size, 0, rfl, Nat.zero_le _, hr6.lt, fun j hj => by rw [Nat.zero_add]; exact hr6.cell hj⟩⟩
  have hb36 := (hb4.setCell (p := ⟨w3.heap.size, 0, none⟩) (Nat.le_refl _) (.int .i64 1)).setCell (p := ⟨w3.heap.size, k, none⟩) (Nat.le_refl _) (.int .i64 1)
  have hb16 := hb13.trans (hb36.mono hb13.size)
  have HB := Lib.hid hb16
  have HLF := Lib.hid (flift_any (k + 1) (k + 1) p v 0 _ r _ (cycF k) _ hsi (by omega) hp hr (by omega) (Nat.le_refl _))
  clear hr6 hsi hb36 hb16 k4 k5 f4 f5
  refine HLF.out.mono ?_
  rintro e w7 ⟨hb7, hh⟩
  have hb17 := HB.out.trans (hb7.mono HB.out.size)
  rcases hh with ⟨h1, _⟩ | ⟨_, h1, _⟩ | ⟨_, _, h1, _⟩ | ⟨_, _, _, x, hx, rfl⟩
  · exact absurd ⟨HPL.out, hvp⟩ h1
  · omega
  · exact absurd HPRE.out h1
  have HX : Hid (FrIs k p r.toNat x) := Lib.hid (HIS.out x hx)
  have HOK : Hid (FrOk (k : Int) p r) := Lib.hid ⟨HDG.out, HPL.out, by rw [Int.toNat_natCast]; exact HM.out⟩
  clear hx
  go_wp2
  go_ret2
  exact ⟨hb17, .inr (.inr ⟨HOK.out, x, by rw [Int.toNat_natCast]; exact HX.out, rfl⟩)⟩
end Go.Proofs.Ytkklacgoeopekaa

namespace Go.Proofs.Ytkklacgoeopekaa
open Go.RowKit
set_option linter.unusedVariables false

set_option maxRecDepth 100000 in
set_option maxHeartbeats 2000000 in
theorem rat_any (n c x m lo hi : Nat) (A : Option Addr) (a : Nat → Int) (w : World) (ha : Si w lo hi A n a) (hn : n ≤ 1000000) (hx : x ≤ 2147483647) (hm2 : 2 ≤ m) (hm : m ≤ 2147483647) :
    Calls Try.prog 41 #[.slice A n c, .int .u64 (x : Int), .int .u64 (m : Int)] w (RetP w (.int .u64 ((vN a n x m : Nat) : Int))) := by
  have HA := Lib.hid ha
  have hm0 : ¬ m = 0 := by omega
  clear ha
  go_enter Try.func41, Try.ntmps41
  go_wp2
  go_loop [7, 8, 9] (fun S Q I => ∃ i s pw : Nat, i ≤ n ∧ I = .int .i64 (i : Int) ∧ S = .int .u64 (s : Int) ∧ Q = .int .u64 (pw : Int) ∧ s < m ∧ pw < m ∧ Cg m (s : Int) (pv a i x) ∧ Cg m (pw : Int) ((x : Int) ^ i)) (fun _ _ I => n - (intOf I).toNat)
  case atStart => exact ⟨0, 0, 1, Nat.zero_le _, rfl, rfl, rfl, by omega, by omega, Cg.refl _ _, Cg.of_eq (by simp)⟩
  case round =>
    obtain ⟨i, s, pw, hin, rfl, rfl, rfl, hsm, hpm, hs, hp⟩ := hrel
    have HS := Lib.hid hs
    have HP := Lib.hid hp
    clear hs hp
    by_cases hil : i < n
    · have e1 : decide ((i : Int) < (n : Int)) = true := decide_eq_true (by omega)
      obtain ⟨g, off, hAe, _, hg, hcell⟩ := HA.out.2 (by omega)
      have k1 := hcell i hil
      obtain ⟨y, hy⟩ : ∃ y, a i = y := ⟨_, rfl⟩
      rw [hy] at k1
      rw [hAe]
      have b1 : 0 ≤ (i : Int) := by omega
      have b2 : (i : Int) < (n : Int) := by omega
      obtain ⟨t, ht⟩ : ∃ t, y.tmod (m : Int) = t := ⟨_, rfl⟩
      have ht1 : -(m : Int) < t ∧ t < (m : Int) := by
        rw [← ht]
        have h1 := Int.tmod_lt_of_pos y (show (0 : Int) < m by omega)
        have h2 := Int.lt_tmod_of_pos y (show (0 : Int) < m by omega)
        omega
      have htc : Cg m t y := by
        refine ⟨-(y.tdiv m), ?_⟩
        have := Int.mul_tdiv_add_tmod y m
        rw [ht] at this
        grind
      obtain ⟨u, hu, hum, huc⟩ : ∃ u : Nat, (t < 0 → t + (m : Int) = (u : Int)) ∧ (u < m) ∧ (¬ t < 0 → t = (u : Int)) := by
        by_cases h : t < 0
        · exact ⟨(t + m).toNat, fun _ => by omega, by omega, fun h2 => absurd h h2⟩
        · exact ⟨t.toNat, fun h2 => absurd h2 h, by omega, fun _ => by omega⟩
      have hucg : Cg m (u : Int) y := by
        by_cases h : t < 0
        · rw [← hu h]
          exact Cg.trans ⟨1, by omega⟩ htc
        · rw [← huc h]
          exact htc
      obtain ⟨mm, hmm⟩ : ∃ mm, u * pw = mm := ⟨_, rfl⟩
      have hmi : (u : Int) * (pw : Int) = (mm : Int) := by rw [← hmm]; simp
      have hmb : mm ≤ 2147483647 * 2147483647 := by rw [← hmm]; exact Nat.mul_le_mul (by omega) (by omega)
      obtain ⟨s2, hs2⟩ : ∃ s2, (s + mm) % m = s2 := ⟨_, rfl⟩
      have hs2i : ((s : Int) + (mm : Int)) % (m : Int) = (s2 : Int) := by rw [← hs2]; simp
      have hs2t : ((s : Int) + (mm : Int)).tmod (m : Int) = (s2 : Int) := by rw [Int.tmod_eq_emod_of_nonneg (by omega), hs2i]
      have hs2m : s2 < m := by rw [← hs2]; exact Nat.mod_lt _ (by omega)
      obtain ⟨m2, hm2'⟩ : ∃ m2, pw * x = m2 := ⟨_, rfl⟩
      have hm2i : (pw : Int) * (x : Int) = (m2 : Int) := by rw [← hm2']; simp
      have hm2b : m2 ≤ 2147483647 * 2147483647 := by rw [← hm2']; exact Nat.mul_le_mul (by omega) hx
      obtain ⟨p2, hp2⟩ : ∃ p2, m2 % m = p2 := ⟨_, rfl⟩
      have hp2i : (m2 : Int) % (m : Int) = (p2 : Int) := by rw [← hp2]; simp
      have hp2t : (m2 : Int).tmod (m : Int) = (p2 : Int) := by rw [Int.tmod_eq_emod_of_nonneg (by omega), hp2i]
      have hp2m : p2 < m := by rw [← hp2]; exact Nat.mod_lt _ (by omega)
      have hnx : Cg m (s2 : Int) (pv a (i + 1) x) ∧ Cg m (p2 : Int) ((x : Int) ^ (i + 1)) := by
        refine ⟨?_, ?_⟩
        · rw [← hs2]
          refine (Cg.modN _).trans ?_
          rw [show ((s + mm : Nat) : Int) = (s : Int) + (u : Int) * (pw : Int) by rw [← hmm]; simp]
          show Cg m _ (pv a i x + a i * (x : Int) ^ i)
          rw [hy]
          exact HS.out.add (hucg.mul HP.out)
        · rw [← hp2]
          refine (Cg.modN _).trans ?_
          rw [show ((m2 : Nat) : Int) = (pw : Int) * (x : Int) by rw [hm2i], Int.pow_succ]
          exact HP.out.mul (Cg.refl _ _)
      have HNX := Lib.hid hnx
      clear hcell hy hAe hmm hm2' htc hucg hs2 hp2 hnx
      by_cases hneg : t < 0
      · have hu' := hu hneg
        have e3 : decide (t < 0) = true := decide_eq_true hneg
        clear hu huc
        go_wp2
        go_round
        case rel => exact ⟨i + 1, s2, p2, hil, by go_num, rfl, rfl, hs2m, hp2m, HNX.out.1, HNX.out.2⟩
        case measure => simp only [intOf]; omega
      · have hu' := huc hneg
        have e3 : decide (t < 0) = false := decide_eq_false hneg
        clear hu huc
        subst hu'
        go_wp2
        go_round
        case rel => exact ⟨i + 1, s2, p2, hil, by go_num, rfl, rfl, hs2m, hp2m, HNX.out.1, HNX.out.2⟩
        case measure => simp only [intOf]; omega
    · obtain rfl : n = i := by omega
      have e1 : decide ((n : Int) < (n : Int)) = false := decide_eq_false (by omega)
      have HE : Hid (s = vN a n x m) := Lib.hid (eq_vN hsm HS.out)
      go_wp2
      go_ret
      exact ⟨by rw [← HE.out]; rfl, rfl⟩
end Go.Proofs.Ytkklacgoeopekaa

namespace Go.Proofs.Ytkklacgoeopekaa.Z
open Go.RowKit
set_option linter.unusedVariables false
def ku (k : IntKind) (f : Nat → Int) : Nat → Value := fun j => .int k (f j)

def Sq (k : IntKind) (w : World) (lo hi : Nat) (A : Option Addr) (n : Nat) (f : Nat → Int) : Prop :=
  (∀ j, n ≤ j → f j = 0) ∧ (0 < n → ∃ b off, A = some ⟨b, off, none⟩ ∧ lo ≤ b ∧ b < hi ∧ ∀ j, j < n → w.cell? ⟨b, off + j, none⟩ = some (.int k (f j)))

theorem Sq.below {k : IntKind} {w w' : World} {lo hi B : Nat} {A : Option Addr} {n : Nat} {f : Nat → Int} (h : Sq k w lo hi A n f) (hb : Below B w w') (hB : hi ≤ B) : Sq k w' lo hi A n f :=
  ⟨h.1, fun hn => by
    obtain ⟨b, off, e, h1, h2, h3⟩ := h.2 hn
    exact ⟨b, off, e, h1, h2, fun j hj => (hb.cell (p := ⟨b, off + j, none⟩) (show b < B by omega)).trans (h3 j hj)⟩⟩

theorem Sq.wide {k : IntKind} {w : World} {lo hi lo' hi' : Nat} {A : Option Addr} {n : Nat} {f : Nat → Int} (h : Sq k w lo hi A n f) (hl : lo' ≤ lo) (hh : hi ≤ hi') : Sq k w lo' hi' A n f :=
  ⟨h.1, fun hn => by
    obtain ⟨b, off, e, h1, h2, h3⟩ := h.2 hn
    exact ⟨b, off, e, by omega, by omega, h3⟩⟩

theorem Sq.nil (k : IntKind) (w : World) (lo hi : Nat) (A : Option Addr) : Sq k w lo hi A 0 (fun _ => 0) := ⟨fun _ _ => rfl, fun h => absurd h (by omega)⟩

theorem Sq.congr {k : IntKind} {w : World} {lo hi : Nat} {A : Option Addr} {n : Nat} {f g : Nat → Int} (h : Sq k w lo hi A n f) (e : ∀ j, f j = g j) : Sq k w lo hi A n g := by
  have : f = g := funext e
  subst this
  exact h

theorem Sq.of_row {k : IntKind} {w : World} {b t c n lo hi : Nat} {f g : Nat → Int} (h : w.rowIs b t c (ku k f)) (hn : n ≤ c) (hl : lo ≤ b) (hh : b < hi) (hg : ∀ j, n ≤ j → g j = 0) (he : ∀ j, j < n → f j = g j) :
    Sq k w lo hi (some ⟨b, 0, none⟩) n g :=
  ⟨hg, fun _ => ⟨b, 0, rfl, hl, hh, fun j hj => by
    rw [Nat.zero_add, h.cell (show j < c by omega)]
    simp only [ku, he j hj]⟩⟩

theorem rowIs_set_ku {k : IntKind} {w : World} {b t n : Nat} {f : Nat → Int} (h : w.rowIs b t n (ku k f)) (i : Nat) (x : Int) : (w.setCell ⟨b, i, none⟩ (.int k x)).rowIs b t n (ku k (fun j => if j = i then x else f j)) :=
  (h.set i _).congr fun j _ => by
    simp only [ku]
    split <;> rfl

theorem ku_oneCell (k : IntKind) (f : Nat → Int) (n : Nat) : ∀ u ∈ (List.range n).map (ku k f), u.oneCell' = true := by
  intro u hu
  obtain ⟨j, _, rfl⟩ := List.mem_map.1 hu
  rfl

def Own (k : IntKind) (w : World) (base e : Nat) (A : Option Addr) (n c : Nat) (f : Nat → Int) : Prop :=
  (∀ j, n ≤ j → f j = 0) ∧ w.ownsRow base e 1 (.slice A n c) n ((List.range n).map (ku k f))

theorem Own.nil (k : IntKind) (w : World) (base e : Nat) : Own k w base e none 0 0 (fun _ => 0) := ⟨fun _ _ => rfl, World.ownsRow_nil w base e 1⟩

theorem Own.cases {k : IntKind} {w : World} {base e n c : Nat} {A : Option Addr} {f : Nat → Int} (h : Own k w base e A n c f) :
    (A = none ∧ n = 0 ∧ c = 0) ∨ ∃ g, A = some ⟨g, 0, none⟩ ∧ base ≤ g ∧ g < w.heap.size ∧ n ≤ c ∧ c ≤ maxLen ∧ (∀ j, j < n → w.cell? ⟨g, j, none⟩ = some (ku k f j)) ∧ (∀ j, w.frozen? ⟨g, j, none⟩ = false) := by
  rcases h.2.2 with ⟨hv, hn⟩ | ⟨g, cap, cur, hv, hb, hh, hnc, hm, hs, ht⟩
  · injection hv with h1 h2 h3
    exact .inl ⟨h1, h2, h3⟩
  · injection hv with h1 h2 h3
    subst h1 h3
    refine .inr ⟨g, rfl, hb, ?_, hnc, hm, fun j hj => ?_, fun j => ?_⟩
    · exact (Array.getElem?_eq_some_iff.1 hh).1
    · rw [h.2.cellAt j (by omega)]
      simp [hj]
    · exact h.2.frozenAt j

theorem Own.le {k : IntKind} {w : World} {base e n c : Nat} {A : Option Addr} {f : Nat → Int} (h : Own k w base e A n c f) : n ≤ c := by
  rcases h.cases with ⟨_, h1, h2⟩ | ⟨g, _, _, _, h3, _⟩ <;> omega

theorem Own.sq {k : IntKind} {w : World} {base e n c lo : Nat} {A : Option Addr} {f : Nat → Int} (h : Own k w base e A n c f) (hl : lo ≤ base) : Sq k w lo w.heap.size A n f :=
  ⟨h.1, fun hn => by
    rcases h.cases with ⟨_, h1, _⟩ | ⟨g, rfl, hb, hg, _, _, hc, _⟩
    · omega
    · exact ⟨g, 0, rfl, by omega, hg, fun j hj => by rw [Nat.zero_add, hc j hj]; rfl⟩⟩

theorem Own.of_block {k : IntKind} {w w' : World} {base e n c : Nat} {A : Option Addr} {f : Nat → Int} (h : Own k w base e A n c f)
    (hk : ∀ g, base ≤ g → g < w.heap.size → A = some ⟨g, 0, none⟩ → w'.heap[g]? = w.heap[g]?) : Own k w' base e A n c f := by
  refine ⟨h.1, h.2.1, ?_⟩
  rcases h.2.2 with h1 | ⟨g, cap, cur, hv, hb, hh, hr⟩
  · exact .inl h1
  · injection hv with h1 h2 h3
    exact .inr ⟨g, cap, cur, by rw [h1, h3], hb, (hk g hb (Array.getElem?_eq_some_iff.1 hh).1 h1).trans hh, hr⟩

theorem Own.below {k : IntKind} {w w' : World} {base e n c B : Nat} {A : Option Addr} {f : Nat → Int} (h : Own k w base e A n c f) (hb : Below B w w') (hB : w.heap.size ≤ B) : Own k w' base e A n c f :=
  h.of_block fun g _ hg _ => hb.block g (by omega)

theorem Own.alloc {k : IntKind} {w : World} {base e n c : Nat} {A : Option Addr} {f : Nat → Int} (h : Own k w base e A n c f) (o : Obj) : Own k (w.alloc o) base e A n c f :=
  h.of_block fun g _ hg _ => Below.heap_alloc w o g hg

theorem Own.grown {k : IntKind} {w w' : World} {base e n c : Nat} {A : Option Addr} {f : Nat → Int} {row : Option Nat} (h : Own k w base e A n c f) (hg : w.grownBy w' row) (hne : ∀ g, A = some ⟨g, 0, none⟩ → row ≠ some g) : Own k w' base e A n c f :=
  h.of_block fun g _ hlt hA => hg.block g hlt fun e => hne g hA e.symm

theorem Own.base {k : IntKind} {w : World} {base base' e n c : Nat} {A : Option Addr} {f : Nat → Int} (h : Own k w base e A n c f) (hb : base' ≤ base) : Own k w base' e A n c f := by
  refine ⟨h.1, h.2.1, ?_⟩
  rcases h.2.2 with h1 | ⟨g, cap, cur, hv, hg, hr⟩
  · exact .inl h1
  · exact .inr ⟨g, cap, cur, hv, by omega, hr⟩

theorem Own.congr {k : IntKind} {w : World} {base e n c : Nat} {A : Option Addr} {f g : Nat → Int} (h : Own k w base e A n c f) (hg : ∀ j, f j = g j) : Own k w base e A n c g := by
  have : f = g := funext hg
  subst this
  exact h

theorem Own.of_row {k : IntKind} {w : World} {base e b c n : Nat} {f g : Nat → Int} (h : w.rowIs b e c (ku k f)) (hb : base ≤ b) (hn : n ≤ c) (hc : c ≤ maxLen) (hg : ∀ j, n ≤ j → g j = 0) (he : ∀ j, j < n → f j = g j) :
    Own k w base e (some ⟨b, 0, none⟩) n c g := by
  obtain ⟨cs, hh, hs, hcs⟩ := h
  refine ⟨hg, by simp, .inr ⟨b, c, cs, rfl, hb, hh, hn, hc, by omega, ?_⟩⟩
  apply List.ext_getElem?
  intro j
  by_cases hj : j < n
  · rw [List.getElem?_take_of_lt (by omega), Array.getElem?_toList, hcs j (by omega), List.getElem?_map, List.getElem?_range hj]
    simp [ku, he j hj]
  · rw [List.getElem?_eq_none (by simp; omega), List.getElem?_eq_none (by simp; omega)]

theorem Own.row {k : IntKind} {w : World} {base e g n : Nat} {f : Nat → Int} (h : Own k w base e (some ⟨g, 0, none⟩) n n f) : w.rowIs g e n (ku k f) := by
  rcases h.2.2 with ⟨hv, _⟩ | ⟨g', cap, cur, hv, hb, hh, hnc, hm, hs, ht⟩
  · cases hv
  · injection hv with h1 h2 h3
    injection h1 with h1
    injection h1 with h1
    subst h1 h3
    refine ⟨cur, hh, by omega, fun j hj => ?_⟩
    have e1 : cur.toList[j]? = (cur.toList.take (n * 1))[j]? := by rw [List.getElem?_take_of_lt (by omega)]
    rw [← Array.getElem?_toList, e1, ht]
    simp [hj]

theorem own_lt {k : IntKind} {w : World} {base e n c g o : Nat} {f : Nat → Int} (h : Own k w base e (some ⟨g, o, none⟩) n c f) : g < w.heap.size := by
  rcases h.cases with ⟨h1, _⟩ | ⟨g', h1, _, h2, _⟩
  · cases h1
  · injection h1 with h1
    injection h1 with h1
    omega
theorem sq_new {k : IntKind} {w : World} {cs : Array Value} {e lo hi n : Nat} (f : Nat → Int) (hl : lo ≤ w.heap.size) (hh : w.heap.size < hi) (hz : ∀ j, n ≤ j → f j = 0) (hc : ∀ j, j < n → cs[j]? = some (.int k (f j))) :
    Sq k (w.alloc (.cells cs e)) lo hi (some ⟨w.heap.size, 0, none⟩) n f :=
  ⟨hz, fun _ => ⟨w.heap.size, 0, rfl, hl, hh, fun j hj => by
    rw [Nat.zero_add, World.cell?_alloc_new]
    exact hc j hj⟩⟩
def oneF (x : Int) : Nat → Int := fun j => if j = 0 then x else 0
theorem sq_one {k : IntKind} {w : World} {e lo hi : Nat} {x : Int} {v : Value} (hv : v = .int k x) (hl : lo ≤ w.heap.size) (hh : w.heap.size < hi) : Sq k (w.alloc (.cells #[v] e)) lo hi (some ⟨w.heap.size, 0, none⟩) 1 (oneF x) :=
  sq_new (oneF x) hl hh (fun j hj => if_neg (by omega)) fun j hj => by
    obtain rfl : j = 0 := by omega
    subst hv
    rfl

section laws
variable {P : Program} {w : World} {ops : Array Oper} {rest : List Oper} {o : Oper} {a : Act} {Q : Exit → Act → World → Prop}

theorem wpl_make (hg : o.guard = none) (l c : Operand) (t : TypeId) (hop : o.op = Op.makeSlice t l c) {e : TypeId} {k : IntKind} {bytes : Nat} (he : ElemOf P t e k bytes)
    (kl kc : IntKind) (L C : Int) (n : Nat) (hl : a.eval l = .int kl L) (hc : a.eval c = .int kc C) (hL : L = (n : Int)) (hC : C = (n : Int)) (hb : bytes * n ≤ 281474976710656) (hn : n ≤ maxLen)
    (h : ∀ w', w'.rowIs w.heap.size e n (ku k fun _ => 0) → Below w.heap.size w w' → w.heap.size < w'.heap.size → wpList P ops Q rest (a.put o.dst (.slice (some ⟨w.heap.size, 0, none⟩) n n)) w') :
    wpList P ops Q (o :: rest) a w := by
  refine wpList_plain hg fun K hK => ?_
  have hrun := run_make_row' (P := P) t e (.int k 0) bytes he.ht he.hi rfl kl kc n hb (by unfold maxLen at hn; omega) w
  subst hL hC
  unfold Oper.wp
  simp [execOp, hop, hl, hc, hrun, Result.andThen]
  exact hK _ _ (h _ ((World.rowIs_made w (.int k 0) n e).congr fun i _ => rfl) ((Below.refl _ _).alloc (Nat.le_refl _) _) (by simp))

theorem wpl_make0 (hg : o.guard = none) (l c : Operand) (t : TypeId) (hop : o.op = Op.makeSlice t l c) {e : TypeId} {k : IntKind} {bytes : Nat} (he : ElemOf P t e k bytes)
    (kl kc : IntKind) (C : Int) (n : Nat) (hl : a.eval l = .int kl 0) (hc : a.eval c = .int kc C) (hC : C = (n : Int)) (hb : bytes * n ≤ 281474976710656) (hn : n ≤ maxLen)
    (h : ∀ w', Own k w' w.heap.size e (some ⟨w.heap.size, 0, none⟩) 0 n (fun _ => 0) → Below w.heap.size w w' → wpList P ops Q rest (a.put o.dst (.slice (some ⟨w.heap.size, 0, none⟩) 0 n)) w') :
    wpList P ops Q (o :: rest) a w := by
  obtain ⟨i, hi, hz⟩ := Option.map_eq_some_iff.1 he.hi
  simp only [Prod.mk.injEq] at hz
  refine wpList_make_own w hg l c t hop w.heap.size e i _ 1 he.ht hi hz.1 hz.2.1 kl kc C n hl hc hC (by rw [hz.2.2]; exact hb) hn (Nat.le_refl _) fun w' h1 h2 => ?_
  exact h w' ⟨fun _ _ => rfl, h1⟩ ((Below.refl _ _).grown h2 (Nat.le_refl _) (fun _ h => by cases h))

theorem app_list (k : IntKind) (f g F : Nat → Int) (n m : Nat) (h1 : ∀ j, j < n → F j = f j) (h2 : ∀ j, j < m → F (n + j) = g j) :
    (List.range n).map (ku k f) ++ (List.range m).map (ku k g) = (List.range (n + m)).map (ku k F) := by
  rw [List.range_add, List.map_append, List.map_map]
  congr 1
  · exact List.map_congr_left fun j hj => by simp [ku, h1 j (List.mem_range.1 hj)]
  · exact List.map_congr_left fun j hj => by simp [ku, h2 j (List.mem_range.1 hj)]

theorem wpl_append (hgd : o.guard = none) (s x : Operand) (t : TypeId) (ho : o.op = .call { callee := .builtin .append, args := #[s, x], argTypes := #[t, t] })
    {e : TypeId} {k : IntKind} {bytes : Nat} (he : ElemOf P t e k bytes) {base : Nat} {A : Option Addr} {n c : Nat} {f : Nat → Int} (hs : a.eval s = .slice A n c) (hown : Own k w base e A n c f)
    {lo hi : Nat} {A2 : Option Addr} {m c2 : Nat} {g : Nat → Int} (hx : a.eval x = .slice A2 m c2) (hr : Sq k w lo hi A2 m g) (F : Nat → Int) (h1 : ∀ j, j < n → F j = f j) (h2 : ∀ j, F (n + j) = g j)
    (h63 : n + m ≤ maxLen) (hbytes : (n + m) * bytes ≤ 140737488355328) (hbase : base ≤ w.heap.size)
    (h : ∀ A' c' w', Own k w' base e A' (n + m) c' F → w.grownBy w' (Value.slice A n c).ownBlock → Below base w w' → (A' = A ∨ A' = some ⟨w.heap.size, 0, none⟩) → wpList P ops Q rest (a.put o.dst (.slice A' (n + m) c')) w') :
    wpList P ops Q (o :: rest) a w := by
  obtain ⟨i, hi, hz⟩ := Option.map_eq_some_iff.1 he.hi
  simp only [Prod.mk.injEq] at hz
  obtain ⟨hz1, hz2, hz3⟩ := hz
  have hrow : ∀ k, (Value.slice A n c).ownBlock = some k → base ≤ k := fun k hk => (hown.2.lt k hk).1
  have hzero : ∀ j, n + m ≤ j → F j = 0 := fun j hj => by rw [show j = n + (j - n) from by omega, h2, hr.1 _ (by omega)]
  by_cases hm : m = 0
  · subst hm
    have hrun : (Builtin.append_ #[t, t] o.type #[.slice A n c, .slice A2 0 c2]).run P w = .ok (.slice A n c) w ∨ ∃ ad, A2 = some ad := by
      rcases A2 with _ | ad
      · refine .inl ?_
        rcases hown.2.2 with ⟨hv, rfl⟩ | ⟨g, cap, cur, hv, _, _, hnc, _⟩
        · rw [hv]; simp [Builtin.append_, run_underlying he.ht, sizeOf, typeInfo, hi, Builtin.lenOf, Builtin.firstCells]
        · rw [hv]; simp [Builtin.append_, run_underlying he.ht, sizeOf, typeInfo, hi, Builtin.lenOf, Builtin.firstCells, hnc, storeCells]
      · exact .inr ⟨ad, rfl⟩
    have hF : Own k w base e A n c F := ⟨fun j hj => hzero j (by omega), by
      rw [show (List.range n).map (ku k F) = (List.range n).map (ku k f) from List.map_congr_left fun j hj => by simp [ku, h1 j (List.mem_range.1 hj)]]
      exact hown.2⟩
    rcases hrun with hrun | ⟨ad, rfl⟩
    · refine wpList_plain hgd fun K hK => ?_
      unfold Oper.wp
      simp [execOp, ho, resolve, invoke, builtin, hs, hx, hrun, Result.andThen]
      exact hK _ _ (h A c w hF (World.grownBy.refl w _) (Below.refl _ _) (.inl rfl))
    · obtain ⟨v', w', hrun, r1, r2, _, r5⟩ := run_append_own_at (P := P) w base t o.type e i (.int k 0) 1 bytes he.ht hi hz1 hz2 hz3 rfl (by decide) (.slice A n c) n _ hown.2 ad 0 c2 [] rfl (fun j u hu => by simp at hu) (fun u hu => by simp at hu) h63 hbytes hbase
      obtain ⟨A', c', rfl⟩ := own_value r1
      refine wpList_plain hgd fun K hK => ?_
      unfold Oper.wp
      simp [execOp, ho, resolve, invoke, builtin, hs, hx, hrun, Result.andThen]
      have hF' : Own k w' base e A' n c' F := ⟨fun j hj => hzero j (by omega), by
        rw [show (List.range n).map (ku k F) = (List.range n).map (ku k f) from List.map_congr_left fun j hj => by simp [ku, h1 j (List.mem_range.1 hj)]]
        simpa using r1⟩
      refine hK _ _ (h A' c' w' hF' r2 ((Below.refl _ _).grown r2 hbase hrow) ?_)
      rcases hF'.cases with ⟨rfl, rfl, _⟩ | ⟨g', rfl, _⟩
      · rcases hown.cases with ⟨rfl, _⟩ | ⟨g, rfl, _⟩
        · exact .inl rfl
        · rcases r5 with r | r <;> simp [Value.ownBlock] at r
      · rcases hown.cases with ⟨rfl, _⟩ | ⟨g, rfl, _⟩ <;> rcases r5 with r | r <;> simp [Value.ownBlock] at r <;> simp [r]
  · obtain ⟨b, off, rfl, _, _, hcell⟩ := hr.2 (by omega)
    obtain ⟨v', w', hrun, r1, r2, _, r5⟩ := run_append_own_at (P := P) w base t o.type e i (.int k 0) 1 bytes he.ht hi hz1 hz2 hz3 rfl (by decide) (.slice A n c) n _ hown.2 ⟨b, off, none⟩ m c2 ((List.range m).map (ku k g)) (by simp)
      (fun j u hu => by
        have hj : j < m := by
          rcases Nat.lt_or_ge j m with h | h
          · exact h
          · rw [List.getElem?_eq_none (by simpa using h)] at hu; cases hu
        rw [List.getElem?_map, List.getElem?_range hj] at hu
        simp only [Option.map_some, Option.some.injEq] at hu
        subst hu
        have e1 : (⟨b, off, none⟩ : Addr).add j = ⟨b, off + j, none⟩ := by
          unfold Addr.add
          split
          · simp
          · rfl
        rw [e1]
        exact hcell j hj) (ku_oneCell k g m) h63 hbytes hbase
    obtain ⟨A', c', rfl⟩ := own_value r1
    rw [app_list k f g F n m h1 (fun j _ => h2 j)] at r1
    refine wpList_plain hgd fun K hK => ?_
    unfold Oper.wp
    simp [execOp, ho, resolve, invoke, builtin, hs, hx, hrun, Result.andThen]
    have hF' : Own k w' base e A' (n + m) c' F := ⟨hzero, r1⟩
    refine hK _ _ (h A' c' w' hF' r2 ((Below.refl _ _).grown r2 hbase hrow) ?_)
    rcases hF'.cases with ⟨rfl, h0, _⟩ | ⟨g', rfl, _⟩
    · omega
    · rcases hown.cases with ⟨rfl, _⟩ | ⟨g, rfl, _⟩ <;> rcases r5 with r | r <;> simp [Value.ownBlock] at r <;> simp [r]

theorem wpl_append_fits (hgd : o.guard = none) (s x : Operand) (t : TypeId) (ho : o.op = .call { callee := .builtin .append, args := #[s, x], argTypes := #[t, t] })
    {e : TypeId} {k : IntKind} {bytes : Nat} (he : ElemOf P t e k bytes) {base g0 n c : Nat} {f : Nat → Int} (hs : a.eval s = .slice (some ⟨g0, 0, none⟩) n c) (hown : Own k w base e (some ⟨g0, 0, none⟩) n c f)
    {lo hi : Nat} {A2 : Option Addr} {m c2 : Nat} {g : Nat → Int} (hx : a.eval x = .slice A2 m c2) (hr : Sq k w lo hi A2 m g) (F : Nat → Int) (h1 : ∀ j, j < n → F j = f j) (h2 : ∀ j, F (n + j) = g j)
    (hfit : n + m ≤ c)
    (h : ∀ w', Own k w' base e (some ⟨g0, 0, none⟩) (n + m) c F → w.grownBy w' (some g0) → wpList P ops Q rest (a.put o.dst (.slice (some ⟨g0, 0, none⟩) (n + m) c)) w') :
    wpList P ops Q (o :: rest) a w := by
  obtain ⟨i, hi, hz⟩ := Option.map_eq_some_iff.1 he.hi
  simp only [Prod.mk.injEq] at hz
  obtain ⟨hz1, hz2, hz3⟩ := hz
  have hzero : ∀ j, n + m ≤ j → F j = 0 := fun j hj => by rw [show j = n + (j - n) from by omega, h2, hr.1 _ (by omega)]
  have hcF : (List.range n).map (ku k F) = (List.range n).map (ku k f) := List.map_congr_left fun j hj => by simp [ku, h1 j (List.mem_range.1 hj)]
  by_cases hA : A2 = none
  · subst hA
    have hm : m = 0 := by
      rcases Nat.eq_zero_or_pos m with h0 | h0
      · exact h0
      · obtain ⟨b, off, e, _⟩ := hr.2 h0
        cases e
    subst hm
    have hrun : (Builtin.append_ #[t, t] o.type #[.slice (some ⟨g0, 0, none⟩) n c, .slice none 0 c2]).run P w = .ok (.slice (some ⟨g0, 0, none⟩) n c) w := by
      have hnc := hown.le
      simp [Builtin.append_, run_underlying he.ht, sizeOf, typeInfo, hi, Builtin.lenOf, Builtin.firstCells, hnc, storeCells]
    refine wpList_plain hgd fun K hK => ?_
    unfold Oper.wp
    simp [execOp, ho, resolve, invoke, builtin, hs, hx, hrun, Result.andThen]
    exact hK _ _ (h w ⟨fun j hj => hzero j (by omega), by rw [Nat.add_zero, hcF]; exact hown.2⟩ (World.grownBy.refl w _))
  · obtain ⟨ad, rfl⟩ : ∃ ad, A2 = some ad := by
      cases A2 with
      | none => exact absurd rfl hA
      | some ad => exact ⟨ad, rfl⟩
    refine wpList_append_fits w hgd s x t ho base e i 1 he.ht hi hz2 g0 n c _ hs hown.2 ad m c2 ((List.range m).map (ku k g)) hx (by simp) (fun j u hu => ?_) (ku_oneCell k g m) hfit fun w' r1 r2 => ?_
    · have hj : j < m := by
        rcases Nat.lt_or_ge j m with h | h
        · exact h
        · rw [List.getElem?_eq_none (by simpa using h)] at hu; cases hu
      obtain ⟨b, off, hA2, _, _, hcell⟩ := hr.2 (by omega)
      injection hA2 with hA2
      subst hA2
      rw [List.getElem?_map, List.getElem?_range hj] at hu
      simp only [Option.map_some, Option.some.injEq] at hu
      subst hu
      have e1 : (⟨b, off, none⟩ : Addr).add j = ⟨b, off + j, none⟩ := by
        unfold Addr.add
        split
        · simp
        · rfl
      rw [e1]
      exact hcell j hj
    · rw [app_list k f g F n m h1 (fun j _ => h2 j)] at r1
      exact h w' ⟨hzero, r1⟩ r2

theorem wpl_copy (hgd : o.guard = none) (d s : Operand) (t : TypeId) (ho : o.op = .call { callee := .builtin .copy, args := #[d, s], argTypes := #[t, t] })
    {e : TypeId} {k : IntKind} {bytes : Nat} (he : ElemOf P t e k bytes) {b N : Nat} {F : Nat → Int} (hd : a.eval d = .slice (some ⟨b, 0, none⟩) N N) (hrow : w.rowIs b e N (ku k F))
    {lo hi : Nat} {A2 : Option Addr} {m c2 : Nat} {g : Nat → Int} (hx : a.eval s = .slice A2 m c2) (hr : Sq k w lo hi A2 m g) (hm : m ≤ N)
    (h : ∀ w', w'.rowIs b e N (ku k fun j => if j < m then g j else F j) → Below b w w' → wpList P ops Q rest (a.put o.dst (goInt m)) w') :
    wpList P ops Q (o :: rest) a w := by
  have hrow0 := hrow
  obtain ⟨cs, hh, hN, hcs⟩ := hrow
  have hcur : cs.toList.length = N := by simpa using hN
  have hlen : ((List.range m).map (ku k g)).length = m := by simp
  refine wpList_copy_splice hgd d s t t ho e he.ht he.size (some ⟨b, 0, none⟩) A2 N N m c2 hd hx b 0 cs.toList e (by simpa using hh) ((List.range m).map (ku k g)) (by simp [Nat.min_eq_left hm]) (fun hpos => ?_) (by simp [hN, hm])
    (ku_oneCell k g m) b w (Below.refl _ _) (Nat.le_refl _) fun w' hw' hb' => ?_
  · have hm0 : 0 < m := by simpa using hpos
    obtain ⟨b2, off, rfl, _, _, hcell⟩ := hr.2 hm0
    refine ⟨rfl, _, rfl, fun j u hu => ?_⟩
    have hj : j < m := by
      rcases Nat.lt_or_ge j m with h | h
      · exact h
      · rw [List.getElem?_eq_none (by simpa using h)] at hu; cases hu
    rw [List.getElem?_map, List.getElem?_range hj] at hu
    simp only [Option.map_some, Option.some.injEq] at hu
    subst hu
    have e1 : (⟨b2, off, none⟩ : Addr).add j = ⟨b2, off + j, none⟩ := by
      unfold Addr.add
      split
      · simp
      · rfl
    rw [e1]
    exact hcell j hj
  · rw [hlen]
    refine h w' ⟨_, hw'.out, ?_, fun j hj => ?_⟩ hb'
    · rw [List.size_toArray, length_splice _ _ _ (by omega), hcur]
    · unfold splice
      simp only [List.take_zero, List.nil_append, Nat.zero_add]
      rw [List.getElem?_toArray]
      by_cases hjm : j < m
      · rw [List.getElem?_append_left (by omega), List.getElem?_map, List.getElem?_range hjm]
        simp [ku, hjm]
      · rw [List.getElem?_append_right (by omega), hlen, List.getElem?_drop, show m + (j - m) = j from by omega, Array.getElem?_toList, hcs j hj]
        simp [ku, hjm]
end laws
end Go.Proofs.Ytkklacgoeopekaa.Z

namespace Go.Proofs.Ytkklacgoeopekaa
open Go.RowKit
set_option linter.unusedVariables false

/-- the reference's derivative: its coefficients are reduced first -/
def derF (a : Nat → Int) (n p : Nat) (j : Nat) : Int := if j + 1 < n then (a (j + 1)).tmod p * ((j + 1 : Nat) : Int) else 0
theorem pv_der {a : Nat → Int} {n p : Nat} (x : Int) (ha : ∀ j, n ≤ j → a j = 0) : Cg p (pv (derF a n p) (n - 1) x) (dv a n x) := by
  rcases n with _ | n
  · exact Cg.refl _ _
  rw [Nat.add_sub_cancel]
  unfold pv dv
  rw [Nat.add_comm n 1, zsum_more]
  refine Cg.trans ?_ (Cg.of_eq (show zsum (fun i => a (1 + i) * (((1 + i : Nat) : Int) * x ^ (1 + i - 1))) n = _ by simp [zsum]))
  refine Cg.sum n fun j hj => ?_
  unfold derF
  rw [if_pos (by omega), show 1 + j - 1 = j by omega, Nat.add_comm 1 j, Int.mul_assoc]
  refine Cg.mul ?_ (Cg.refl _ _)
  refine ⟨-((a (j + 1)).tdiv p), ?_⟩
  have := Int.mul_tdiv_add_tmod (a (j + 1)) p
  grind

/-- the first m of them -/
def trZ (m : Nat) (f : Nat → Int) (j : Nat) : Int := if j < m then f j else 0
theorem trZ_add {m : Nat} {f : Nat → Int} (j : Nat) : trZ (m + 1) f (m + j) = Z.oneF (f m) j := by
  unfold trZ Z.oneF
  by_cases h : j = 0
  · rw [if_pos (by omega), if_pos h, h, Nat.add_zero]
  · rw [if_neg (by omega), if_neg h]
theorem trZ_lt {m j : Nat} {f : Nat → Int} (h : j < m) : trZ (m + 1) f j = trZ m f j := by unfold trZ; rw [if_pos h, if_pos (by omega)]
def RetSz (w : World) (n : Nat) (F : Nat → Int) (e : Ending) (w' : World) : Prop := ∃ A c, e = .returned (.slice A n c) ∧ n ≤ c ∧ Si w' w.heap.size w'.heap.size A n F ∧ Below w.heap.size w w'

set_option maxRecDepth 100000 in
set_option maxHeartbeats 2000000 in
theorem rder_any (n c p lo hi : Nat) (A : Option Addr) (a : Nat → Int) (w : World) (ha : Si w lo hi A n a) (hn : n ≤ 1000) (hp2 : 2 ≤ p) (hp : p ≤ 65535) (hhi : hi ≤ w.heap.size) :
    Calls Try.prog 42 #[.slice A n c, .int .u32 (p : Int)] w (RetSz w (n - 1) (derF a n p)) := by
  have HA := Lib.hid ha
  have hp0 : ¬ p = 0 := by omega
  clear ha
  go_enter Try.func42, Try.ntmps42
  go_wp2
  go_loopw [5, 6] (fun O I wr => ∃ (i : Nat) (A2 : Option Addr) (c2 : Nat), i ≤ n - 1 ∧ I = .int .i64 ((i + 1 : Nat) : Int) ∧ O = .slice A2 i c2 ∧ Z.Own .i64 wr w.heap.size 2 A2 i c2 (trZ i (derF a n p)) ∧ Below w.heap.size w wr) (fun _ I _ => n - (intOf I).toNat)
  case atStart => exact ⟨0, none, 0, Nat.zero_le _, rfl, rfl, Z.Own.congr (Z.Own.nil _ _ _ _) (fun j => (if_neg (by omega)).symm), Below.refl _ _⟩
  case round =>
    obtain ⟨i, A2, c2, hin, rfl, rfl, hown, hbl⟩ := hrel
    have hzr := hbl.size
    have HOWN := Lib.hid hown
    clear hown
    by_cases hil : i + 1 < n
    · have e1 : decide (((i + 1 : Nat) : Int) < (n : Int)) = true := decide_eq_true (by omega)
      obtain ⟨g, off, hAe, _, hg, hcell⟩ := HA.out.2 (by omega)
      have k1 := (hbl.cell (p := ⟨g, off + (i + 1), none⟩) (by show g < _; omega)).trans (hcell (i + 1) hil)
      obtain ⟨y, hy⟩ : ∃ y, a (i + 1) = y := ⟨_, rfl⟩
      rw [hy] at k1
      rw [hAe]
      have b1 : 0 ≤ ((i + 1 : Nat) : Int) := by omega
      have b2 : ((i + 1 : Nat) : Int) < (n : Int) := by omega
      obtain ⟨t, ht⟩ : ∃ t, y.tmod (p : Int) = t := ⟨_, rfl⟩
      have ht1 : -(p : Int) < t ∧ t < (p : Int) := by
        rw [← ht]
        have h1 := Int.tmod_lt_of_pos y (show (0 : Int) < p by omega)
        have h2 := Int.lt_tmod_of_pos y (show (0 : Int) < p by omega)
        omega
      obtain ⟨I1, hI1⟩ : ∃ I1, i + 1 = I1 := ⟨_, rfl⟩
      obtain ⟨mm, hmm⟩ : ∃ mm, t * (I1 : Int) = mm := ⟨_, rfl⟩
      have hmb : -65535000 ≤ mm ∧ mm ≤ 65535000 := by
        have h1 : t * (I1 : Int) ≤ 65535 * (I1 : Int) := Int.mul_le_mul_of_nonneg_right (by omega) (by omega)
        have h2 : -65535 * (I1 : Int) ≤ t * (I1 : Int) := Int.mul_le_mul_of_nonneg_right (by omega) (by omega)
        omega
      have HV : Hid (Value.int .i64 mm = .int .i64 (derF a n p i)) := Lib.hid (by unfold derF; rw [if_pos hil, hy, ht, hI1, hmm])
      rw [hI1] at e1 k1 b1 b2 ⊢
      have HI2 := Lib.hid hI1.symm
      have HIL := Lib.hid hil
      clear hil hin
      clear hcell hy hAe hI1
      go_wp2_with (at_builtin; refine Z.wpl_append rfl _ _ _ rfl e64s rfl (HOWN.out.alloc _) rfl (Z.sq_one (x := derF a n p i) (lo := 0) (hi := wr.heap.size + 1) HV.out (Nat.zero_le _) (Nat.lt_succ_self _)) (trZ (i + 1) (derF a n p)) (fun j hj => trZ_lt hj) trZ_add (by have := HIL.out; unfold maxLen; omega) (by have := HIL.out; omega) (by simp; omega) ?_; intro A3 c3 w3 hown3 hg3 hb3 hat3)
      go_roundw
      case rel => exact ⟨i + 1, A3, c3, by have := HIL.out; omega, by first | (rw [HI2.out]; go_num) | go_num, rfl, hown3, (hbl.alloc hzr _).trans hb3⟩
      case measure => (have := HIL.out; have := HI2.out; simp only [intOf]; omega)
    · have e1 : decide (((i + 1 : Nat) : Int) < (n : Int)) = false := decide_eq_false (by omega)
      obtain rfl : i = n - 1 := by omega
      have HO : Hid (Z.Own .i64 wr w.heap.size 2 A2 (n - 1) c2 (derF a n p)) := Lib.hid (Z.Own.congr HOWN.out fun j => by
        unfold trZ
        split
        · rfl
        · unfold derF; rw [if_neg (by omega)])
      go_wp2
      go_ret
      exact ⟨A2, c2, rfl, HO.out.le, HO.out.sq (Nat.le_refl _), hbl⟩
end Go.Proofs.Ytkklacgoeopekaa

namespace Go.Proofs.Ytkklacgoeopekaa
open Go.RowKit
set_option linter.unusedVariables false

theorem rprime5_any (q : Nat) (w : World) (hq : q ≤ 4294967295) : Calls Try.prog 34 #[.int .u32 q] w (RetP w (.bool (prB q))) := by
  have HP := Lib.hid (rprime_any q w hq)
  obtain ⟨b, hb⟩ : ∃ b, prB q = b := ⟨_, rfl⟩
  rw [hb] at HP ⊢
  clear hb
  go_enter Try.func34, Try.ntmps34
  go_wp2_with fail
  (with_reducible refine HP.out.mono ?_)
  rintro e w1 ⟨rfl, hw⟩
  subst hw
  go_wp2_with fail
  go_ret
  exact ⟨rfl, rfl⟩
/-- a plain prime -/
noncomputable def pp7 (p : Nat) : Bool := decide (2 < p) && (decide (p < 65536) && prB p)
theorem pp7_yes {p : Nat} : pp7 p = true ↔ 3 ≤ p ∧ p ≤ 65535 ∧ Mr.Pr p := by
  unfold pp7
  rw [Bool.and_eq_true, Bool.and_eq_true, decide_eq_true_iff, decide_eq_true_iff, prB_true]
  exact ⟨fun h => ⟨by omega, by omega, h.2.2⟩, fun h => ⟨by omega, by omega, h.2.2⟩⟩
theorem rpp7_any (p : Nat) (w : World) (hp : p ≤ 4294967295) : Calls Try.prog 14 #[.int .u32 p] w (RetP w (.bool (pp7 p))) := by
  have HP := Lib.hid (rprime5_any p w hp)
  obtain ⟨b, hb⟩ : ∃ b, prB p = b := ⟨_, rfl⟩
  have HB := Lib.hid hb
  rw [hb] at HP
  clear hb
  have hc : p ≤ 2 ∨ (2 < p ∧ 65536 ≤ p) ∨ (2 < p ∧ p < 65536) := by omega
  rcases hc with h1 | ⟨h1, h2⟩ | ⟨h1, h2⟩
  · have d1 : decide ((p : Int) > 2) = false := decide_eq_false (by omega)
    have HE : Hid (pp7 p = false) := Lib.hid (by unfold pp7; rw [decide_eq_false (by omega)]; rfl)
    go_enter Try.func14, Try.ntmps14
    go_wp2
    go_ret
    exact ⟨by rw [HE.out]; rfl, rfl⟩
  · have d1 : decide ((p : Int) > 2) = true := decide_eq_true (by omega)
    have d2 : decide ((p : Int) < 65536) = false := decide_eq_false (by omega)
    have HE : Hid (pp7 p = false) := Lib.hid (by unfold pp7; rw [decide_eq_true h1, decide_eq_false (by omega)]; rfl)
    go_enter Try.func14, Try.ntmps14
    go_wp2
    go_ret
    exact ⟨by rw [HE.out]; rfl, rfl⟩
  · have d1 : decide ((p : Int) > 2) = true := decide_eq_true (by omega)
    have d2 : decide ((p : Int) < 65536) = true := decide_eq_true (by omega)
    have HE : Hid (pp7 p = b) := Lib.hid (by unfold pp7; rw [decide_eq_true h1, decide_eq_true h2, HB.out]; rfl)
    go_enter Try.func14, Try.ntmps14
    go_wp2_with (go_at_call 34; refine HP.out.mono ?_; rintro e w' ⟨rfl, hw⟩; subst hw)
    go_ret
    exact ⟨by rw [HE.out]; rfl, rfl⟩

theorem pl_40 {p : Nat} {r : Int} (h : Pl p r) : r ≤ 40 := by
  rcases Int.lt_or_le 40 r with h1 | h1
  · exfalso
    have h2 := h.2.2.2.2
    have h3 : p ^ 41 ≤ p ^ r.toNat := Nat.pow_le_pow_right (by have := h.1; omega) (by omega)
    have h4 : 3 ^ 41 ≤ p ^ 41 := Nat.pow_le_pow_left h.1 41
    have h5 : (2147483647 : Nat) < 3 ^ 41 := by decide
    omega
  · exact h1
set_option maxHeartbeats 1000000 in
theorem rmodulus_any (p : Nat) (r : Int) (w : World) (hp : p ≤ 4294967295) : Calls Try.prog 23 #[.int .u32 p, .int .i64 r] w (RetPl w p r) := by
  have HP := Lib.hid (rpp7_any p w hp)
  by_cases h0 : pp7 p = true ∧ 1 ≤ r ∧ r ≤ 40
  rotate_left
  · have HN : Hid (¬ Pl p r) := Lib.hid fun h => h0 ⟨pp7_yes.2 ⟨h.1, h.2.1, h.2.2.1⟩, h.2.2.2.1, pl_40 h⟩
    have hc : pp7 p = false ∨ (pp7 p = true ∧ r < 1) ∨ (pp7 p = true ∧ 1 ≤ r ∧ 40 < r) := by
      cases hb : pp7 p with
      | false => exact .inl rfl
      | true =>
        rcases Int.lt_or_le r 1 with g3 | g3
        · exact .inr (.inl ⟨rfl, g3⟩)
        · exact .inr (.inr ⟨rfl, g3, by
            rcases Int.lt_or_le 40 r with g4 | g4
            · exact g4
            · exact absurd ⟨hb, g3, g4⟩ h0⟩)
    clear h0
    rcases hc with h1 | ⟨h1, h2⟩ | ⟨h1, h2, h3⟩
    all_goals
      rw [h1] at HP
      clear h1
      try first
        | have d1 : decide (r < 1) = true := decide_eq_true (by omega)
        | have d1 : decide (r < 1) = false := decide_eq_false (by omega)
      try have d2 : decide (r > 40) = true := decide_eq_true (by omega)
      try have d2 : decide (40 < r) = true := decide_eq_true (by omega)
      go_enter Try.func23, Try.ntmps23
      go_wp2_with (go_at_call 14; refine HP.out.mono ?_; rintro e w' ⟨rfl, hw⟩; subst hw)
      go_ret2
      exact ⟨Below.refl _ _, .inr ⟨HN.out, rfl⟩⟩
  · obtain ⟨h1, h4, h5⟩ := h0
    obtain ⟨k, rfl⟩ : ∃ k : Nat, r = (k : Int) := ⟨r.toNat, by omega⟩
    have d1 : decide ((k : Int) < 1) = false := decide_eq_false (by omega)
    have d2 : decide ((k : Int) > 40) = false := decide_eq_false (by omega)
    rw [h1] at HP
    obtain ⟨hp3, hp6, hpr⟩ := pp7_yes.1 h1
    have HPR := Lib.hid hpr
    clear h1 hpr
    go_enter Try.func23, Try.ntmps23
    go_wp2_with (go_at_call 14; refine HP.out.mono ?_; rintro e w' ⟨rfl, hw⟩; subst hw)
    go_loop [6, 7] (fun M I => ∃ i m : Nat, M = .int .u64 (m : Int) ∧ I = .int .i64 (i : Int) ∧ i ≤ k ∧ m ≤ 2147483647 ∧ p ^ i = m) (fun _ I => k - (intOf I).toNat)
    case atStart => exact ⟨0, 1, rfl, rfl, Nat.zero_le _, by omega, Nat.pow_zero p⟩
    case round =>
      obtain ⟨i, m, rfl, rfl, hik, hmb, hpm⟩ := hrel
      have HPM := Lib.hid hpm
      clear hpm
      by_cases hlt : i < k
      · obtain ⟨m2, hm2⟩ : ∃ m2, m * p = m2 := ⟨_, rfl⟩
        have hm2i : (m : Int) * (p : Int) = (m2 : Int) := by rw [← hm2]; simp
        have hm2b : m2 ≤ 2147483647 * 65535 := by rw [← hm2]; exact Nat.mul_le_mul hmb hp6
        have hp2 : p ^ (i + 1) = m2 := by rw [Nat.pow_succ, HPM.out, hm2]
        have HP2 := Lib.hid hp2
        clear hm2 hp2
        by_cases hbig : 2147483647 < m2
        · have d4 : decide ((m2 : Int) > 2147483647) = true := decide_eq_true (by omega)
          have HN : Hid (¬ Pl p (k : Int)) := Lib.hid fun h => by
            have h5 := h.2.2.2.2
            rw [Int.toNat_natCast] at h5
            have := Nat.pow_le_pow_right (show 0 < p by omega) (show i + 1 ≤ k by omega)
            have := HP2.out
            omega
          go_wp2
          go_ret2
          exact ⟨Below.refl _ _, .inr ⟨HN.out, rfl⟩⟩
        · have d4 : decide ((m2 : Int) > 2147483647) = false := decide_eq_false (by omega)
          go_wp2
          go_round
          case rel => exact ⟨i + 1, m2, rfl, by go_num, hlt, by omega, HP2.out⟩
          case measure => simp only [intOf]; omega
      · obtain rfl : k = i := by omega
        have HPL : Hid (Pl p (k : Int) ∧ p ^ (k : Int).toNat = m) := Lib.hid ⟨⟨hp3, hp6, HPR.out, by omega, by rw [Int.toNat_natCast, HPM.out]; exact hmb⟩, by rw [Int.toNat_natCast, HPM.out]⟩
        go_wp2
        go_ret2
        exact ⟨Below.refl _ _, .inl ⟨HPL.out.1, by rw [HPL.out.2]; rfl⟩⟩
end Go.Proofs.Ytkklacgoeopekaa
