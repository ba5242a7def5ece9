/- The law PolysThrough of layer 25. -/
import Derived.Test.YtmidpholmgmdpaaV25
import Derived.Test.YtmidpholmgmdpaaLT25
namespace Go.Proofs.Ytmidpholmgmdpaa
open Go.RowKit
set_option linter.unusedVariables false

theorem thr_poly {p m L : Nat} {y : Nat → Int} {f : Nat → Nat} (hf : fieldE p = 0) (ht : TbOk p m y) (h : Thr p m (idF m) (resF p m y) L f) : polyE p L (balF p L f) = 0 := by
  obtain ⟨h3, h6, ho, hpr⟩ := field_ok hf
  have hm := ht.1
  have hl := h.le
  unfold polyE
  rw [if_pos (modB_yes.2 ⟨h3, by omega, ho⟩), if_neg (by omega), if_pos]
  refine ⟨fun i hi => ?_, fun h0 hz => ?_⟩
  · unfold balF
    rw [if_pos hi]
    exact balB_yes.2 (bal_bound ho _)
  · unfold balF at hz
    rw [if_pos (by omega)] at hz
    have h1 := bal_cg p ((f (L - 1) : Nat) : Int)
    rw [hz] at h1
    have h2 := h.rs.1 (L - 1)
    obtain ⟨q, hq⟩ := h1
    have h4 : f (L - 1) = 0 := by
      rcases Int.lt_trichotomy q 0 with h5 | h5 | h5
      · have := Int.mul_le_mul_of_nonneg_left (show q ≤ -1 by omega) (show (0 : Int) ≤ p by omega)
        omega
      · subst h5; omega
      · have := Int.mul_le_mul_of_nonneg_left (show 1 ≤ q by omega) (show (0 : Int) ≤ p by omega)
        omega
    have h5 := h.to
    obtain ⟨k, hk⟩ : ∃ k, L = k + 1 := ⟨L - 1, by omega⟩
    subst hk
    rw [Nat.add_sub_cancel] at h4
    exact absurd h5 (by
      unfold tl
      rw [if_pos h4]
      have := tl_le f k
      omega)
theorem thr_val {p m L : Nat} {y : Nat → Int} {f : Nat → Nat} (hf : fieldE p = 0) (ht : TbOk p m y) (h : Thr p m (idF m) (resF p m y) L f) (i : Nat) (hi : i < m) : valZ p (balF p L f) L (i : Int) = y i := by
  obtain ⟨h3, h6, ho, hpr⟩ := field_ok hf
  have h1 := h.vo i hi
  have e1 : idF m i = i := by unfold idF; rw [if_pos hi]
  have e2 : resF p m y i = ((y i + p) % (p : Int)).toNat := by unfold resF; rw [if_pos hi]
  rw [e1, e2] at h1
  have hc : Cg p (zsum (fun j => balF p L f j * (i : Int) ^ j) L) (y i) := by
    have c1 : Cg p (zsum (fun j => balF p L f j * (i : Int) ^ j) L) (zsum (fun j => ((f j * i ^ j : Nat) : Int)) L) := by
      refine Cg.sum _ fun j hj => ?_
      have e : ((f j * i ^ j : Nat) : Int) = (f j : Int) * (i : Int) ^ j := by simp
      rw [e]
      unfold balF
      rw [if_pos hj]
      exact (bal_cg p _).mul (Cg.refl p _)
    rw [← zsum_cast] at c1
    have c2 : Cg p ((sumN (fun j => f j * i ^ j) L : Nat) : Int) ((valF p L f i : Nat) : Int) := by
      have e : ((valF p L f i : Nat) : Int) = ((sumN (fun j => f j * i ^ j) L : Nat) : Int) % (p : Int) := by
        unfold valF
        simp
      rw [e]
      exact (Cg.mod _).symm
    rw [h1] at c2
    have hnn := Int.emod_nonneg (y i + p) (show (p : Int) ≠ 0 by omega)
    rw [Int.toNat_of_nonneg hnn] at c2
    exact c1.trans (c2.trans ((Cg.mod _).trans ⟨1, by omega⟩))
  unfold valZ
  exact bal_of ho hc.symm (balB_yes.1 (ht.2 i hi))
theorem balF_bd {p L : Nat} {f : Nat → Nat} (hp : p ≤ 2147483647) (ho : p % 2 = 1) (j : Nat) : -2147483648 ≤ balF p L f j ∧ balF p L f j ≤ 2147483648 := by
  unfold balF
  split
  · have := bal_bound ho ((f j : Nat) : Int)
    omega
  · omega

set_option maxRecDepth 100000 in
set_option maxHeartbeats 4000000 in
theorem polysThrough_any (p m c : Nat) (A : Option Addr) (y : Nat → Int) (w : World) (hp : p ≤ 4294967295) (hy : Z.Sq .i64 w 0 w.heap.size A m y) (hm : m ≤ 9223372036854775807) :
    Calls Try.prog 4 #[.int .u32 p, .slice A m c] w (RetV w (.bool true)) := by
  obtain ⟨L, E, G, hL, hLm, hE, hE0, hok, huni⟩ := tb_uni p m y
  have HU := Lib.hid huni
  have HY := Lib.hid hy
  have HOKE := Lib.hid hok
  clear huni hy hok
  by_cases hbig : 1000 < m
  · have d2 : decide ((m : Int) > 1000) = true := decide_eq_true (by omega)
    have HW := Lib.hid (awake25_any w)
    clear hE hE0
    go_enter Try.func4, Try.ntmps4
    go_wp2_with fail
    refine HW.out.mono ?_
    rintro e w1 ⟨rfl, hb1⟩
    go_wp2_with fail
    go_ret
    exact ⟨rfl, hb1⟩
  have d2 : decide ((m : Int) > 1000) = false := decide_eq_false (by omega)
  have d2' : decide (1000 < m) = false := decide_eq_false (by omega)
  have HTB := Lib.hid (table25_any p m c A y w hp HY.out hm)
  by_cases hEz : E = 0
  rotate_left
  · have hL0 := hE0 hEz
    subst hL0
    have hE2 : E = 2 ∨ E = 3 := by omega
    have e1 : (E != 0) = true := by rw [bne_iff_ne]; exact hEz
    clear hE hE0 hEz
    rcases hE2 with rfl | rfl
    all_goals
      go_enter Try.func4, Try.ntmps4
      go_wp2_with fail
      refine HTB.out.mono ?_
      intro e w2 h2
      obtain ⟨hb2, A2, c2, rfl, hs2⟩ := HU.out _ _ _ h2
      clear h2 hs2
      have HB2 := Lib.hid hb2
      clear hb2
      go_wp2_with fail
      refine (awake25_any w2).mono ?_
      rintro e w3 ⟨rfl, hb3⟩
      go_wp2_with fail
      go_ret
      exact ⟨rfl, HB2.out.trans (hb3.mono HB2.out.size)⟩
  · subst hEz
    obtain ⟨hf0, htb, f, hth, hG⟩ := HOKE.out rfl
    obtain ⟨hp3, hp6, hodd, hpr⟩ := field_ok hf0
    have HVAL := Lib.hid (fun i (hi : i < m) => thr_val hf0 htb hth i hi)
    have HPOL := Lib.hid (thr_poly hf0 htb hth)
    have HBD := Lib.hid (fun j => balF_bd (L := L) (f := f) (show p ≤ 2147483647 by omega) hodd j)
    rw [← hG] at HVAL HPOL HBD
    have d3 : decide ((p : Int) < 3) = false := decide_eq_false (by omega)
    have d4 : decide ((L : Int) > (m : Int)) = false := decide_eq_false (by omega)
    have d4' : decide (m < L) = false := decide_eq_false (by omega)
    clear hE hE0 hf0 htb hth hG hpr
    go_enter Try.func4, Try.ntmps4
    go_wp2_with fail
    refine HTB.out.mono ?_
    intro e w2 h2
    obtain ⟨hb2, A2, c2, rfl, hs2⟩ := HU.out _ _ _ h2
    have HB2 := Lib.hid hb2
    have HS2 := Lib.hid hs2
    have HPO := Lib.hid (rpoly25_any p L c2 _ A2 G w2 hp (hs2.wide (Nat.zero_le _) (Nat.le_refl _)) (Nat.le_refl _) (by omega))
    rw [HPOL.out] at HPO
    have hz2 := hb2.size
    clear h2 hb2 hs2 HTB
    go_wp2_with (go_at_call 14; refine HPO.out.mono ?_; rintro e w' ⟨rfl, hw⟩; subst hw)
    go_loopw [7] (fun I wr => ∃ i : Nat, I = .int .i64 (i : Int) ∧ i ≤ m ∧ ∃ d, wr = w2.drewN d) (fun I _ => m - (intOf I).toNat)
    case atStart => exact ⟨0, rfl, Nat.zero_le _, 0, rfl⟩
    case round =>
      obtain ⟨i, rfl, him, d, rfl⟩ := hrel
      by_cases hin : i < m
      · have e3 : decide ((i : Int) < (m : Int)) = true := decide_eq_true (by omega)
        obtain ⟨g, off, rfl, _, hg, hcell⟩ := (HY.out.below HB2.out (Nat.le_refl _)).2 (by omega)
        have k1 := hcell i hin
        have hv := HVAL.out i hin
        obtain ⟨v, hvv⟩ : ∃ v, y i = v := ⟨_, rfl⟩
        rw [hvv] at k1 hv
        have HRV : Hid (∀ d, Calls Try.prog 15 #[.int .u32 p, .slice A2 L c2, .int .i64 (i : Int)] (w2.drewN d) (RetP (w2.drewN d) (.int .i64 v))) := Lib.hid fun d => hv ▸ rvalue25_any p L c2 _ A2 G (i : Int) (w2.drewN d) hp3 (by omega) hodd (HS2.out.wide (Nat.zero_le _) (Nat.le_refl _)) (Nat.le_refl _) (by omega) HBD.out (by omega)
        have e5 : (v != v) = false := by simp
        have i0 : 0 ≤ (i : Int) := by omega
        have i1 : (i : Int) < (m : Int) := by omega
        clear hcell hv hvv
        go_wp2
        go_quiet ((exact (HRV.out _).mono fun e w' hh => ⟨hh.1, _, hh.2.symm⟩))
        go_wp2
        go_roundw
        case rel => exact ⟨i + 1, by go_num, hin, _, by first | rfl | exact World.drewN_drewN _ _ _⟩
        case measure => simp only [intOf]; omega
      · obtain rfl : m = i := by omega
        have e3 : decide ((m : Int) < (m : Int)) = false := decide_eq_false (by omega)
        have HB3 := Lib.hid (below_drewN HB2.out d)
        go_wp2_with fail
        refine (awake25_any _).mono ?_
        rintro e w3 ⟨rfl, hb3⟩
        go_wp2_with fail
        go_ret
        exact ⟨rfl, HB3.out.trans (hb3.mono HB3.out.size)⟩
end Go.Proofs.Ytmidpholmgmdpaa
