/- The contract of the reference's split: the same quotient and rest as divide, of a list that ends in no zero. -/
import Derived.Test.YtoifjkandmnakaaDivide
namespace Go.Proofs.Ytoifjkandmnakaa
open Go.RowKit

theorem sub_mul_mod {m x c y : Nat} (hm : 0 < m) (hc : c ≤ m) : (x + m - c * y % m) % m = (x + (m - c) * y) % m := by
  have h1 : c * y % m < m := Nat.mod_lt _ hm
  have key : ((x + m - c * y % m) + c * y) % m = ((x + (m - c) * y) + c * y) % m := by
    have e1 : (x + (m - c) * y) + c * y = x + m * y := by rw [Nat.add_assoc, ← Nat.add_mul, Nat.sub_add_cancel hc]
    rw [e1, Nat.add_mul_mod_self_left]
    have e2 : c * y = m * (c * y / m) + c * y % m := (Nat.div_add_mod _ _).symm
    have e3 : (x + m - c * y % m) + c * y = x + m * (1 + c * y / m) := by rw [Nat.mul_add, Nat.mul_one]; omega
    rw [e3, Nat.add_mul_mod_self_left]
  have k2 : ((x + m - c * y % m) % m + c * y % m) % m = ((x + (m - c) * y) % m + c * y % m) % m := by rw [← Nat.add_mod, key, Nat.add_mod]
  have a1 : (x + m - c * y % m) % m < m := Nat.mod_lt _ hm
  have a2 : (x + (m - c) * y) % m < m := Nat.mod_lt _ hm
  generalize (x + m - c * y % m) % m = p at *
  generalize (x + (m - c) * y) % m = q at *
  generalize c * y % m = z at *
  rcases Nat.lt_or_ge (p + z) m with h | h <;> rcases Nat.lt_or_ge (q + z) m with h' | h'
  · rw [Nat.mod_eq_of_lt h, Nat.mod_eq_of_lt h'] at k2; omega
  · rw [Nat.mod_eq_of_lt h, Nat.mod_eq_sub_mod h', Nat.mod_eq_of_lt (by omega)] at k2; omega
  · rw [Nat.mod_eq_of_lt h', Nat.mod_eq_sub_mod h, Nat.mod_eq_of_lt (by omega)] at k2; omega
  · rw [Nat.mod_eq_sub_mod h', Nat.mod_eq_sub_mod h, Nat.mod_eq_of_lt (by omega), Nat.mod_eq_of_lt (by omega)] at k2; omega

def monoF (c s : Nat) : Nat → Nat := fun j => if j = s then c else 0

theorem mulF_mono {m c s : Nat} {b : Nat → Nat} (j : Nat) : mulF m (monoF c s) b j = if s ≤ j then c * b (j - s) % m else 0 := by
  unfold mulF
  have key : ∀ n, sumN (fun t => monoF c s t * b (j - t)) n = if s < n then c * b (j - s) else 0 := by
    intro n
    induction n with
    | zero => rfl
    | succ n ih =>
      rw [sumN, ih]
      unfold monoF
      by_cases h : n = s
      · subst h
        rw [if_neg (Nat.lt_irrefl n), if_pos rfl, if_pos (Nat.lt_succ_self n), Nat.zero_add]
      · rw [if_neg h, Nat.zero_mul, Nat.add_zero]
        by_cases h2 : s < n
        · rw [if_pos h2, if_pos (by omega)]
        · rw [if_neg h2, if_neg (by omega)]
  rw [key]
  by_cases h : s ≤ j
  · rw [if_pos (by omega), if_pos h]
  · rw [if_neg (by omega), if_neg h, Nat.zero_mod]

/-- the reference's step is divide's -/
theorem subF_mono {m nb iv s : Nat} {b R : Nat → Nat} (hm : 0 < m) (hR : ∀ j, R j < m) (j : Nat) : subF m R (mulF m (monoF (dC m nb iv s R) s) b) j = dStep m nb b iv s R j := by
  unfold subF dStep
  rw [mulF_mono]
  split
  · exact sub_mul_mod hm (Nat.le_of_lt (Nat.mod_lt _ hm))
  · rw [Nat.sub_zero, Nat.add_mod_right, Nat.mod_eq_of_lt (hR j)]

theorem tl_tl (f : Nat → Nat) (n : Nat) : tl f (tl f n) = tl f n := tl_unique (Nat.le_refl _) (fun j h1 h2 => by omega) (tl_last f n)

/-- what holds at the loop's head -/
def SplitR (m nb iv n q : Nat) (a b : Nat → Nat) (w : World) (r : Value) (wr : World) : Prop :=
  ∃ (n' c' : Nat) (R : Nat → Nat) (A' : Option Addr), r = .slice A' n' c' ∧ n' ≤ n ∧ n' ≤ c' ∧ Sq .u32 wr w.heap.size wr.heap.size A' n' R ∧ tl R n' = n' ∧ (∀ j, R j < m) ∧
    wr.rowIs q 22 (n + 1) (ku .u32 fun j => if dL n' nb ≤ j then dQ m nb b iv (dL n nb) a j else 0) ∧
    dR m nb b iv (dL n' nb) R = dR m nb b iv (dL n nb) a ∧ (∀ j, j < dL n' nb → dQ m nb b iv (dL n' nb) R j = dQ m nb b iv (dL n nb) a j) ∧ Below w.heap.size w wr ∧ q < wr.heap.size ∧ (0 < n' → ∀ b off, A' = some ⟨b, off, none⟩ → b ≠ q)

theorem Sq.setOther {k : IntKind} {w : World} {lo hi n : Nat} {A : Option Addr} {f : Nat → Nat} {p : Addr} {v : Value} (h : Sq k w lo hi A n f) (hne : ∀ b off, A = some ⟨b, off, none⟩ → b ≠ p.block) : Sq k (w.setCell p v) lo hi A n f :=
  ⟨h.1, fun hn => by
    obtain ⟨b, off, e, h1, h2, h3⟩ := h.2 hn
    exact ⟨b, off, e, h1, h2, fun j hj => (World.cell?_setCell_other w p _ v (fun e2 => hne b off e (by rw [e2]))).trans (h3 j hj)⟩⟩

theorem dL_pos {n nb : Nat} (h : nb ≤ n) : dL n nb = n - nb + 1 := by unfold dL; omega

/-- one round of the loop, said of the functions alone -/
theorem split_step {m nb iv n n' s : Nat} {a b R R' : Nat → Nat} (hm : 0 < m) (hnb : 0 < nb) (hiv : iv * b (nb - 1) % m = 1 % m) (hb : ∀ j, nb ≤ j → b j = 0) (hR : ∀ j, R j < m) (hRz : ∀ j, n' ≤ j → R j = 0)
    (hs : n' = s + nb) (hR' : R' = dStep m nb b iv s R) (h1 : dR m nb b iv (dL n' nb) R = dR m nb b iv (dL n nb) a) (h2 : ∀ j, j < dL n' nb → dQ m nb b iv (dL n' nb) R j = dQ m nb b iv (dL n nb) a j) :
    tl R' n' < n' ∧ (∀ j, tl R' n' ≤ j → R' j = 0) ∧ dR m nb b iv (dL (tl R' n') nb) R' = dR m nb b iv (dL n nb) a ∧ (∀ j, j < dL (tl R' n') nb → dQ m nb b iv (dL (tl R' n') nb) R' j = dQ m nb b iv (dL n nb) a j) ∧
      (∀ j, dL (tl R' n') nb ≤ j → j < s → dQ m nb b iv (dL n nb) a j = 0) ∧ dQ m nb b iv (dL n nb) a s = dC m nb iv s R ∧ dL (tl R' n') nb ≤ s := by
  have hL : dL n' nb = s + 1 := by rw [dL_pos (by omega)]; omega
  rw [hL] at h1 h2
  have hz : ∀ j, n' ≤ j → R' j = 0 := fun j hj => by rw [hR', dStep_out hb hR (by omega)]; exact hRz j hj
  have hlead : R' (n' - 1) = 0 := by rw [hR', show n' - 1 = s + nb - 1 from by omega]; exact dStep_lead hm hnb hiv hR
  have hlt : tl R' n' < n' := by
    rcases Nat.lt_or_ge (tl R' n') n' with h | h
    · exact h
    · have h3 := tl_le R' n'
      have h4 : tl R' n' = n' := by omega
      have h5 := tl_last R' n' (by omega)
      rw [h4] at h5
      exact absurd hlead h5
  have hz2 : ∀ j, tl R' n' ≤ j → R' j = 0 := fun j hj => by
    rcases Nat.lt_or_ge j n' with h | h
    · exact tl_zero R' n' j hj h
    · exact hz j h
  have hRm' : ∀ j, R' j < m := fun j => by rw [hR']; exact dStep_lt hm hR j
  have hk : dL (tl R' n') nb ≤ s := by unfold dL; omega
  obtain ⟨d, hd⟩ := Nat.exists_eq_add_of_le hk
  have hskip := dR_skip (b := b) (iv := iv) (k := dL (tl R' n') nb) d R' hRm' (fun j hj => hz2 j (by unfold dL at hj; omega)) hnb
  rw [← hd] at hskip
  simp only [dR] at h1
  rw [← hR'] at h1
  have h2' : ∀ j, j < s → dQ m nb b iv s R' j = dQ m nb b iv (dL n nb) a j := fun j hj => by
    rw [← h2 j (by omega)]
    simp only [dQ]
    rw [if_neg (by omega), ← hR']
  refine ⟨hlt, hz2, by rw [← hskip.1]; exact h1, fun j hj => by rw [← hskip.2]; exact h2' j (by omega), fun j h3 h4 => ?_, ?_, hk⟩
  · rw [← h2' j h4, hskip.2]
    exact dQ_out _ _ j h3
  · rw [← h2 s (by omega)]
    simp only [dQ, if_true]

set_option maxHeartbeats 2000000 in
theorem split_any (m iv n nb ca cb : Nat) (A B : Option Addr) (a b : Nat → Nat) (w : World) (lo hi lo2 hi2 : Nat) (ha : Sq .u32 w lo hi A n a) (hb : Sq .u32 w lo2 hi2 B nb b)
    (hm : 0 < m) (hm2 : m ≤ 2147483647) (hiv : iv < m) (haa : ∀ j, a j < m) (hbb : ∀ j, b j < m) (hn : n ≤ 900) (hnb : nb ≤ 900) (hhi2 : hi2 ≤ w.heap.size) (hnb0 : 0 < nb)
    (hinv : iv * b (nb - 1) % m = 1 % m) (htl : tl a n = n) :
    Calls Try.prog 49 #[.int .u32 m, .slice A n ca, .slice B nb cb, .int .u32 iv] w (RetSl2 w (tl (dQ m nb b iv (dL n nb) a) (dL n nb)) (dQ m nb b iv (dL n nb) a) (tl (dR m nb b iv (dL n nb) a) n) (dR m nb b iv (dL n nb) a)) := by
  have hn1 : ((n : Int) + 1) = ((n + 1 : Nat) : Int) := by omega
  have HN := Lib.hid hn1
  have HTL := Lib.hid htl
  have HINV := Lib.hid hinv
  clear hn1 htl hinv
  go_enter Try.func49, Try.ntmps49
  go_wp2_with (first
    | (at_builtin; refine wpl_append rfl _ _ _ rfl e32 rfl (Own.nil _ _ w.heap.size _) rfl ha a (fun j h => absurd h (Nat.not_lt_zero j)) (fun j => by rw [Nat.zero_add]) (by unfold maxLen; omega) (by omega) (Nat.le_refl _) ?_; intro A1 c1 w1 hown1 hg1 hb1 hat1; rw [Nat.zero_add] at hown1)
    | (at_make; refine wpl_make rfl _ _ _ rfl e32 .i64 .i64 _ _ (n + 1) rfl rfl HN.out HN.out (by omega) (by unfold maxLen; omega) ?_; intro w2 hr2 hb2 hs2))
  go_loopw [9] (SplitR m nb iv n w1.heap.size a b w) (fun r _ => match r with | .slice _ k _ => k | _ => 0)
  case atStart =>
    refine ⟨n, c1, a, A1, rfl, Nat.le_refl _, hown1.le, ((hown1.sq (Nat.le_refl _)).below hb2 (Nat.le_refl _)).wide (Nat.le_refl _) hb2.size, HTL.out, haa, hr2.congr fun j hj => ?_, rfl, fun j _ => rfl, hb1.trans (hb2.mono hb1.size), hs2, fun _ b off hA => ?_⟩
    · simp only [ku]
      split
      · rw [dQ_out _ _ j (by assumption)]
      · rfl
    · subst hA
      rcases hat1 with h | h
      · cases h
      · injection h with h
        injection h with h
        have := own_lt hown1
        omega
  case round =>
    have hsz1 := hb1.size
    clear hown1 hr2 hb1 hb2 hs2 hg1 hat1 ha
    obtain ⟨n', c', R, A', rfl, hn', hc', hsq, htr, hRm, hrow, hdR, hdQ, hbel, hqs, hqr⟩ := hrel
    by_cases hlen : nb ≤ n'
    · obtain ⟨s, hs⟩ : ∃ s, n' = s + nb := ⟨n' - nb, by omega⟩
      obtain ⟨g, off, rfl, hg1, hg2, hcell⟩ := hsq.2 (by omega)
      have hc1 := hcell (n' - 1) (by omega)
      have hxm := hRm (n' - 1)
      have hcd : dC m nb iv s R = R (n' - 1) * iv % m := by unfold dC; rw [show s + nb - 1 = n' - 1 from by omega]
      have hcm : dC m nb iv s R < m := Nat.mod_lt _ hm
      have hstep := split_step (n := n) (a := a) hm hnb0 HINV.out hb.1 hRm hsq.1 hs rfl hdR hdQ
      have hmono : ∀ j, monoF (dC m nb iv s R) s j < m := fun j => by unfold monoF; split <;> omega
      have hsubm := funext (subF_mono (nb := nb) (iv := iv) (s := s) (b := b) hm hRm)
      obtain ⟨c, hc⟩ : ∃ c, dC m nb iv s R = c := ⟨_, rfl⟩
      obtain ⟨x, hx⟩ : ∃ x, R (n' - 1) = x := ⟨_, rfl⟩
      rw [hx] at hc1 hxm hcd
      rw [hc] at hcm hcd hstep hmono hsubm
      have e1 := dC_val hm hcd
      have hxi2 := mul_lt_int hxm hiv hm2
      have hxi3 : 0 ≤ (x : Int) * (iv : Int) := Int.mul_nonneg (Int.natCast_nonneg _) (Int.natCast_nonneg _)
      have hmd1 : 0 ≤ (x : Int) * (iv : Int) % (m : Int) := Int.emod_nonneg _ (by omega)
      have hmd2 : (x : Int) * (iv : Int) % (m : Int) < (m : Int) := Int.emod_lt_of_pos _ (by omega)
      have hq1 := hrow.cell (show s < n + 1 by omega)
      simp only [ku] at hq1
      rw [if_neg (show ¬ dL n' nb ≤ s by unfold dL; omega)] at hq1
      have hq2 := hrow.frozen s
      have hidx : ((n' : Int) - 1).toNat = n' - 1 := by omega
      have hidx2 : ((n' : Int) - (nb : Int)).toNat = s := by omega
      have hidx3 : (n' : Int) - (nb : Int) = (s : Int) := by omega
      have HS := Lib.hid hstep
      have HM := Lib.hid hmono
      have HSM := Lib.hid hsubm
      have HE := Lib.hid e1
      have HSQ := Lib.hid hsq
      have HROW := Lib.hid hrow
      have HRM := Lib.hid hRm
      have HI3 := Lib.hid hidx3
      have hs2 : s + nb ≤ n' := by omega
      have hs3 : n' ≤ s + nb := by omega
      have HNS := Lib.hid hs
      clear hx hc hcd hstep hmono hsubm e1 hdR hdQ hRm hsq hrow hcell hidx3 hs htr
      go_wp2_with fail
      rw [HE.out, HI3.out]
      have hsz2 := hbel.size
      have hW := HSQ.out.setOther (p := ⟨w1.heap.size, s, none⟩) (v := .int .u32 (c : Int)) (hqr (by omega))
      have hWr := (rowIs_set_ku HROW.out s c)
      have hWb := hbel.setCell (p := ⟨w1.heap.size, s, none⟩) hsz1 (.int .u32 (c : Int))
      have hWs : (wr.setCell ⟨w1.heap.size, s, none⟩ (.int .u32 (c : Int))).heap.size = wr.heap.size := by simp
      generalize wr.setCell ⟨w1.heap.size, s, none⟩ (.int .u32 (c : Int)) = W at *
      clear hmd1 hmd2 hxi2 hxi3 hc1 hq1 hq2 hidx hidx2
      refine (power_any c s W (by omega)).mono ?_
      rintro e w3 ⟨Ap, cp, rfl, hcp, hsq3, hb3⟩
      go_wp2_with fail
      refine (times_any m (s + 1) nb cp cb Ap B (monoF c s) b w3 _ _ lo2 hi2 hsq3 (hb.below (hWb.trans (hb3.mono (by omega))) hhi2) hm hm2 HM.out hbb (by omega) (by omega) (Nat.le_refl _) (by have := hb3.size; omega)).mono ?_
      rintro e w4 ⟨At, ct, rfl, hct, hsq4, hb4⟩
      go_wp2_with fail
      have hW4 := (hW.below (hb3.trans (hb4.mono hb3.size)) (by omega)).wide (Nat.le_refl _) (show wr.heap.size ≤ w4.heap.size by have := hb3.size; have := hb4.size; omega)
      refine (minus_any m n' _ c' ct (some ⟨g, off, none⟩) At R (mulF m (monoF c s) b) w4 _ _ _ _ hW4 hsq4 hm hm2 HRM.out (mulF_lt hm _ _) (by omega) (by have := tl_le (mulF m (monoF c s) b) (s + 1 + nb); omega) (Nat.le_refl _) (Nat.le_refl _)).mono ?_
      rintro e w5 ⟨Am, cm, rfl, hcm5, hsq5, hb5⟩
      obtain ⟨T, hT⟩ : ∃ T, tl (subF m R (mulF m (monoF c s) b)) (max n' (tl (mulF m (monoF c s) b) (s + 1 + nb))) = T := ⟨_, rfl⟩
      rw [hT] at hcm5 hsq5
      have hz3 := hb3.size
      have hz4 := hb4.size
      have hz5 := hb5.size
      have hbel5 := hWb.trans ((hb3.trans ((hb4.trans (hb5.mono hb4.size)).mono hb3.size)).mono (by omega))
      have hrow5 := rowIs_below hWr (hb3.trans ((hb4.trans (hb5.mono hb4.size)).mono hb3.size)) (by omega)
      rw [HSM.out] at hT hsq5
      have hTT : T = tl (dStep m nb b iv s R) n' := by
        rw [← hT]
        refine tl_ext (fun j hj => HS.out.2.1 j ?_) fun j hj => HS.out.2.1 j ?_
        · have := tl_le (dStep m nb b iv s R) n'
          have : n' ≤ max n' (tl (mulF m (monoF c s) b) (s + 1 + nb)) := Nat.le_max_left _ _
          omega
        · have := tl_le (dStep m nb b iv s R) n'
          omega
      have HT := Lib.hid (And.intro hTT (And.intro hsq5 (And.intro hrow5 hbel5)))
      rw [HSM.out, hT]
      have hTlt : T < n' := by rw [hTT]; exact HS.out.1
      clear hT hTT hsq5 hrow5 hbel5 hW4 hsq4 hsq3 hW hWr hWb
      go_wp2
      go_roundw
      case rel =>
        obtain ⟨hTT, hsq5, hrow5, hbel5⟩ := HT.out
        obtain ⟨z1, z2, z3, z4, z5, z6, z7⟩ := HS.out
        rw [← hTT] at z3 z4 z5 z7
        refine ⟨T, cm, dStep m nb b iv s R, Am, rfl, by omega, hcm5, hsq5.wide (by omega) (Nat.le_refl _), ?_, dStep_lt hm HRM.out, hrow5.congr fun j _ => ?_, z3, z4, hbel5, by omega, fun h0 b0 off0 hA => ?_⟩
        · rw [hTT]; exact tl_tl _ _
        · simp only [ku]
          congr 2
          have hLs : dL n' nb = s + 1 := by rw [dL_pos (by omega)]; omega
          by_cases h1 : j = s
          · subst h1
            rw [if_pos rfl, if_pos z7, z6]
          · rw [if_neg h1, hLs]
            by_cases h2 : s + 1 ≤ j
            · rw [if_pos h2, if_pos (by omega)]
            · rw [if_neg h2]
              by_cases h3 : dL T nb ≤ j
              · rw [if_pos h3, z5 j h3 (by omega)]
              · rw [if_neg h3]
        · subst hA
          obtain ⟨b1, off1, e1, h1, _⟩ := hsq5.2 h0
          injection e1 with e1
          injection e1 with e1
          omega
      case measure => simpa using hTlt
    · have hL0 : dL n' nb = 0 := by unfold dL; omega
      rw [hL0] at hrow hdR
      have hr : R = dR m nb b iv (dL n nb) a := hdR
      have hLn : dL n nb ≤ n + 1 := by unfold dL; omega
      have hsq1 : Sq .u32 wr w.heap.size wr.heap.size (some ⟨w1.heap.size, 0, none⟩) (n + 1) (dQ m nb b iv (dL n nb) a) :=
        Sq.of_row hrow (Nat.le_refl _) hsz1 hqs (fun j hj => dQ_out _ _ j (by omega)) fun j _ => if_pos (Nat.zero_le j)
      have hT1 : tl (dQ m nb b iv (dL n nb) a) (n + 1) = tl (dQ m nb b iv (dL n nb) a) (dL n nb) := tl_ext (fun j hj => dQ_out _ _ j (by omega)) (fun j hj => dQ_out _ _ j hj)
      have hT2 : tl (dR m nb b iv (dL n nb) a) n = n' := by
        rw [← htr, ← hr]
        exact tl_ext (fun j hj => hsq.1 j (by omega)) hsq.1
      have HT2 := Lib.hid hT2
      have H1 := Lib.hid (rtrim_any (some ⟨w1.heap.size, 0, none⟩) (n + 1) (n + 1) _ wr _ _ hsq1 (Nat.le_refl _) (by omega))
      rw [hT1] at H1
      rw [hr] at hsq
      have HS := Lib.hid hsq
      clear hsq1 hsq hrow hdR hdQ hRm hb haa hbb hT1 hT2 hr htr hL0 hqr
      go_wp2_with fail
      refine H1.out.mono ?_
      rintro e w3 ⟨A3, c3, rfl, hc3, hsq3, hb3⟩
      go_wp2
      go_ret2
      have hz3 := hb3.size
      unfold RetSl2
      rw [HT2.out]
      exact ⟨_, _, _, _, rfl, hc3, hc', hsq3.wide (hbel.size) (Nat.le_refl _), (HS.out.below hb3 (Nat.le_refl _)).wide (Nat.le_refl _) hz3, hbel.trans (hb3.mono hbel.size)⟩
end Go.Proofs.Ytoifjkandmnakaa
