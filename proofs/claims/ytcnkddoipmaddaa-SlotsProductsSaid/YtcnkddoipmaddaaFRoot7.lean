/- The contract of factor.Root. -/
import Derived.Test.YtcnkddoipmaddaaDeg7
import Derived.Test.YtcnkddoipmaddaaRoot
namespace Go.Proofs.Ytcnkddoipmaddaa
open Go.RowKit
set_option linter.unusedVariables false

/-- x^n + 1 -/
def cycN (n j : Nat) : Nat := if j = n then 1 else if j = 0 then 1 else 0
def cycF (n j : Nat) : Int := ((cycN n j : Nat) : Int)
theorem pv_cyc {n : Nat} (hn : 1 ≤ n) (x : Int) : pv (cycF n) (n + 1) x = 1 + x ^ n := by
  show zsum _ n + cycF n n * x ^ n = _
  rw [zsum_one (j := 0) n (by omega) (fun i hi h0 => by unfold cycF cycN; rw [if_neg (by omega), if_neg h0]; simp)]
  unfold cycF cycN
  rw [if_neg (by omega), if_pos rfl, if_pos rfl]
  simp
theorem dv_cyc {n : Nat} (hn : 1 ≤ n) (x : Int) : dv (cycF n) (n + 1) x = (n : Int) * x ^ (n - 1) := by
  show zsum _ n + cycF n n * ((n : Int) * x ^ (n - 1)) = _
  rw [zsum_zero n (fun i hi => by
    rcases Nat.eq_zero_or_pos i with h | h
    · subst h; simp
    · unfold cycF cycN; rw [if_neg (by omega), if_neg (by omega)]; simp)]
  unfold cycF cycN
  rw [if_pos rfl]
  simp
theorem cyc_pre {n p ψ : Nat} (hr : Rt p n ψ) (hn : 1 ≤ n) (hnp : n < p) : LfPre (cycF n) (n + 1) p ψ := by
  have hp2 := hr.pr.1
  have h1 : Cg p (pv (cycF n) (n + 1) ψ) 0 := by
    rw [pv_cyc hn]
    exact ((Cg.refl p 1).add hr.neg).trans (Cg.of_eq (by omega))
  refine ⟨?_, fun h0 => ?_⟩
  · exact Cg.eq_nat ((vN_cg (by omega)).trans h1) (vN_lt (by omega)) (by omega)
  · have h2 : Cg p (dv (cycF n) (n + 1) ψ) 0 := by
      have := dN_cg (a := cycF n) (n := n + 1) (x := ψ) (m := p) (by omega)
      rw [h0] at this
      exact this.symm
    rw [dv_cyc hn] at h2
    have h3 : ¬ Cg p (n : Int) 0 := fun h => by
      have := Cg.eq_nat (a := n) (b := 0) h hnp (by omega)
      omega
    have h4 := Cg.cancel hr.pr h2 h3
    have h5 := h4.mul (Cg.refl p (ψ : Int))
    rw [← Int.pow_succ, show (n - 1).succ = n by omega, Int.zero_mul] at h5
    have h6 := hr.neg.symm.trans h5
    have h7 : Cg p 1 0 := by
      have := h6.neg
      simpa using this
    have := Cg.eq_nat (q := p) (a := 1) (b := 0) h7 (by omega) (by omega)
    omega
/-- what Root of factor leaves: the lift of the least root -/
def FrOk (n : Int) (p : Nat) (r : Int) : Prop := DgOk n p ∧ Pl p r ∧ p % (2 * n.toNat) = 1
def FrIs (n p r x : Nat) : Prop := ∃ ψ, Least p (2 * n) ψ ∧ Rt p n ψ ∧ ψ < p ∧ Lf (cycF n) (n + 1) p r ψ x
def RetFr (w : World) (n : Int) (p : Nat) (r : Int) (e : Ending) (w' : World) : Prop :=
  Below w.heap.size w w' ∧ ((¬ (DgOk n p ∧ Pl p r) ∧ e = .returned (.tuple #[.int .u32 0, .int .i64 2])) ∨ ((DgOk n p ∧ Pl p r) ∧ p % (2 * n.toNat) ≠ 1 ∧ e = .returned (.tuple #[.int .u32 0, .int .i64 4])) ∨
    (FrOk n p r ∧ ∃ x : Nat, FrIs n.toNat p r.toNat x ∧ e = .returned (.tuple #[.int .u32 (x : Int), .int .i64 0])))
theorem e64s : ElemOf Try.prog 23 2 .i64 8 := ⟨Try.underlying23, by kernel_rfl⟩

set_option maxRecDepth 100000 in
set_option maxHeartbeats 4000000 in
theorem froot_any (n : Int) (p : Nat) (r : Int) (w : World) (hp : p ≤ 4294967295) (hr : r ≤ 9223372036854775807) : Calls Try.prog 40 #[.int .i64 n, .int .u32 p, .int .i64 r] w (RetFr w n p r) := by
  have HD := Lib.hid (degree_any n p w hp)
  go_enter Try.func40, Try.ntmps40
  go_wp2_with fail
  (with_reducible refine HD.out.mono ?_)
  rintro e w1 ⟨hb1, hh⟩
  have hz1 := hb1.size
  rcases hh with ⟨hno, rfl⟩ | ⟨hdg, d, hdd, rfl⟩
  · have HN : Hid (¬ (DgOk n p ∧ Pl p r)) := Lib.hid fun h => hno h.1
    clear hno
    go_wp2_with fail
    go_ret2
    exact ⟨hb1, .inl ⟨HN.out, rfl⟩⟩
  have HP := Lib.hid (plain_any p r w1 hp hr)
  have HDG := Lib.hid hdg
  clear hdd hdg
  go_wp2_with fail
  (with_reducible refine HP.out.mono ?_)
  rintro e w2 ⟨hb2, hh⟩
  have hb12 := hb1.trans (hb2.mono hz1)
  rcases hh with ⟨hpl, rfl⟩ | ⟨hno, rfl⟩
  rotate_left
  · have HN : Hid (¬ (DgOk n p ∧ Pl p r)) := Lib.hid fun h => hno h.2
    clear hno
    go_wp2_with fail
    go_ret2
    exact ⟨hb12, .inl ⟨HN.out, rfl⟩⟩
  have HPL := Lib.hid hpl
  obtain ⟨k, rfl, hk2, hk32⟩ := dimF_nat HDG.out.1
  have hp3 := hpl.1
  have hp6 := hpl.2.1
  obtain ⟨m, hm⟩ : ∃ m, p % (2 * k) = m := ⟨_, rfl⟩
  have hmi : (p : Int) % (2 * (k : Int)) = (m : Int) := by rw [← hm]; simp
  have hmt : (p : Int).tmod (2 * (k : Int)) = (m : Int) := by rw [Int.tmod_eq_emod_of_nonneg (by omega), hmi]
  have hmb : m < 2 * k := by rw [← hm]; exact Nat.mod_lt _ (by omega)
  have HM := Lib.hid hm
  clear hpl hm
  by_cases hm1 : m = 1
  rotate_left
  · have f1 : ((m : Int) != 1) = true := by simp; omega
    have HN : Hid (p % (2 * (k : Int).toNat) ≠ 1) := Lib.hid (by rw [Int.toNat_natCast, HM.out]; exact hm1)
    clear hm1
    go_wp2_with fail
    go_ret2
    exact ⟨hb12, .inr (.inl ⟨⟨HDG.out, HPL.out⟩, HN.out, rfl⟩)⟩
  subst hm1
  have f1 : (((1 : Nat) : Int) != 1) = false := by simp
  have hz2 := hb12.size
  have HR := Lib.hid (root_any (2 * k) p w2 (by omega) (by omega))
  have hcast : (((2 * k : Nat) : Nat) : Int) = 2 * (k : Int) := by simp
  rw [hcast] at HR
  clear hcast
  go_wp2_with fail
  (with_reducible refine HR.out.mono ?_)
  rintro e w3 ⟨v, E, rfl, hrr, hb3⟩
  have hb13 := hb12.trans (hb3.mono hz2)
  have hz3 := hb3.size
  have hpp := HPL.out.2.2.1
  have hdv : 2 * k ∣ p - 1 := ⟨p / (2 * k), by have := HM.out; have := Nat.div_add_mod p (2 * k); omega⟩
  have hkp : k < p := by have := Nat.le_of_dvd (by omega) hdv; omega
  obtain ⟨rfl, hle⟩ : E = 0 ∧ Least p (2 * k) v := by
    have hpre : RootPre (2 * k) p := ⟨by omega, by omega, hpp, by omega⟩
    rcases hrr with ⟨h1, _⟩ | ⟨_, h1, _⟩ | ⟨_, _, h1, _⟩ | ⟨_, _, _, h2, h3⟩
    · exact absurd hpre h1
    · omega
    · exact absurd hdv h1
    · exact ⟨h2, h3⟩
  have hrt : Rt p k v := ⟨hpp, by omega, hle.1⟩
  have hvp := hle.2.1
  have hpre := cyc_pre hrt (by omega) hkp
  have HIS : Hid (∀ x, Lf (cycF k) (k + 1) p r.toNat v x → FrIs k p r.toNat x) := Lib.hid (fun x h => ⟨v, hle, hrt, hvp, h⟩)
  have HPRE := Lib.hid hpre
  have HN1 : Hid ((k : Int) + 1 = ((k + 1 : Nat) : Int)) := Lib.hid (by omega)
  clear hrt hpre hle hrr hdv hpp
  have hk1 : 0 < k + 1 := by omega
  go_wp2_with (at_make; refine wpl_make rfl _ _ _ rfl e64s .i64 .i64 _ _ (k + 1) rfl rfl HN1.out HN1.out (by omega) (by unfold maxLen; omega) ?_; intro w4 hr4 hb4 hs4; have k4 := hr4.cell (show 0 < k + 1 by omega); have f4 := hr4.frozen 0; have k5 := hr4.cell (show k < k + 1 by omega); have f5 := hr4.frozen k; simp only [ku] at k4 k5; have HR4 := Lib.hid hr4; clear hr4)
  have hr6 := rowIs_set_ku (rowIs_set_ku HR4.out 0 1) k 1
  have hsi : Si ((w4.setCell ⟨w3.heap.size, 0, none⟩ (.int .i64 1)).setCell ⟨w3.heap.size, k, none⟩ (.int .i64 1)) 0 _ (some ⟨w3.heap.size, 0, none⟩) (k + 1) (cycF k) :=
    ⟨fun j hj => by unfold cycF cycN; rw [if_neg (by omega), if_neg (by omega)]; rfl, fun _ => ⟨w3.heap.size, 0, rfl, Nat.zero_le _, hr6.lt, fun j hj => by rw [Nat.zero_add]; exact hr6.cell hj⟩⟩
  have hb36 := (hb4.setCell (p := ⟨w3.heap.size, 0, none⟩) (Nat.le_refl _) (.int .i64 1)).setCell (p := ⟨w3.heap.size, k, none⟩) (Nat.le_refl _) (.int .i64 1)
  have hb16 := hb13.trans (hb36.mono hb13.size)
  have HB := Lib.hid hb16
  have HLF := Lib.hid (flift_any (k + 1) (k + 1) p v 0 _ r _ (cycF k) _ hsi (by omega) hp hr (by omega) (Nat.le_refl _))
  clear hr6 hsi hb36 hb16 k4 k5 f4 f5
  refine HLF.out.mono ?_
  rintro e w7 ⟨hb7, hh⟩
  have hb17 := HB.out.trans (hb7.mono HB.out.size)
  rcases hh with ⟨h1, _⟩ | ⟨_, h1, _⟩ | ⟨_, _, h1, _⟩ | ⟨_, _, _, x, hx, rfl⟩
  · exact absurd ⟨HPL.out, hvp⟩ h1
  · omega
  · exact absurd HPRE.out h1
  have HX : Hid (FrIs k p r.toNat x) := Lib.hid (HIS.out x hx)
  have HOK : Hid (FrOk (k : Int) p r) := Lib.hid ⟨HDG.out, HPL.out, by rw [Int.toNat_natCast]; exact HM.out⟩
  clear hx
  go_wp2
  go_ret2
  exact ⟨hb17, .inr (.inr ⟨HOK.out, x, by rw [Int.toNat_natCast]; exact HX.out, rfl⟩)⟩
end Go.Proofs.Ytcnkddoipmaddaa
