/- The law FactorSplits of layer 7. -/
import Derived.Test.YtkklacgoeopekaaKp7
import Derived.Test.YtkklacgoeopekaaFn7
import Derived.Test.YtkklacgoeopekaaLs7
import Derived.Test.YtkklacgoeopekaaAw7
import Derived.Test.YtkklacgoeopekaaRDg7
namespace Go.Proofs.Ytkklacgoeopekaa
open Go.RowKit
set_option linter.unusedVariables false

set_option maxRecDepth 100000 in
set_option maxHeartbeats 4000000 in
theorem cfactors_err (n : Int) (p : Nat) (w : World) (hp : p ≤ 4294967295) (hno : ¬ DgOk n p) : Calls Try.prog 12 #[.int .i64 n, .int .u32 p] w (RetV w (.tuple #[.slice none 0 0, .int .i64 2])) := by
  have HDG := Lib.hid (fun W : World => degree_any n p W hp)
  have HN := Lib.hid hno
  clear hno
  go_enter Try.func12, Try.ntmps12
  go_wp2_with fail
  refine (HDG.out _).mono ?_
  rintro e w1 ⟨hb1, hh⟩
  rcases hh with ⟨_, rfl⟩ | ⟨h, _⟩
  · have HB1 := Lib.hid (((Below.refl _ w).alloc (Nat.le_refl _) _).trans (hb1.mono (by simp)))
    clear hb1
    go_wp2_with fail
    go_ret2
    exact ⟨rfl, HB1.out.alloc HB1.out.size _⟩
  · exact absurd h HN.out
/-- the reference's product, of small lists -/
theorem rml_call (p ca cb : Nat) (A B : Option Addr) (a b : List Nat) (w : World) (hp : Mr.Pr p) (hp2 : p ≤ 2147483647) (ra : LR p a) (rb : LR p b) (ha : LS w 0 w.heap.size A a) (hf : LS w 0 w.heap.size B b) (hn : a.length + b.length ≤ 200) :
    Calls Try.prog 20 #[.int .u32 p, .slice A a.length ca, .slice B b.length cb] w (fun e w' => ∃ A c, e = .returned (.tuple #[.slice A (mlL p a b).length c, .int .i64 0]) ∧ LS w' 0 w'.heap.size A (mlL p a b) ∧ Below w.heap.size w w') :=
  (rmul_any p a.length b.length ca cb A B (litF a) (litF b) w 0 w.heap.size ha hf (by omega) (by omega) (Nat.le_refl _)).mono fun e w' h => by
    have hE : mlE p a.length (litF a) b.length (litF b) = 0 := by
      unfold mlE
      rw [chk2_of (ra.chk hp.1 hp2 (by omega)) (rb.chk hp.1 hp2 (by omega)), if_pos rfl, if_neg (by omega)]
    obtain ⟨A1, c1, rfl, h1, h2, h3⟩ := h
    refine ⟨A1, c1, ?_, (LS.of h2).fresh, h3⟩
    unfold mlL
    rw [toL_len, hE]
    rfl
/-- what is known of the sorted factors -/
structure FSrt (p d k q : Nat) (M : List (List Nat)) : Prop where
  len : M.length = q
  mul : d * q = k
  el : ∀ i, i < q → LR p (M.getD i []) ∧ (M.getD i []).length = d + 1 ∧ litF (M.getD i []) d = 1
  lt : ∀ i, 0 < i → i < q → lessL (M.getD (i - 1) []) (M.getD i []) = true
  acc : ∀ i, i ≤ q → LR p (accL p M i) ∧ (accL p M i).length ≤ 100
  all : accL p M q = wholeL k
theorem fsrt_of {p d k : Nat} {hp : Mr.Pr p} {Φ M : List (List Nat)} {κ : List Nat → Nat → Nat} (h6 : p ≤ 65535) (hd : 1 ≤ d) (hk : k ≤ 32) (hF : Fam p d hp Φ κ) (hf : FP p d Φ (wholeL k) Φ) (hl : d * Φ.length = k) (hM : M.Perm Φ)
    (hso : ∀ i j, i < j → j < M.length → ¬ cmpL (M.getD j []) (M.getD i []) < 0) : FSrt p d k Φ.length M := by
  have hml := hM.length_eq
  have hfm := hf.perm hM
  have hin : ∀ i, i < Φ.length → M.getD i [] ∈ Φ := fun i hi => by
    refine hM.subset ?_
    rw [List.getD_eq_getElem?_getD, List.getElem?_eq_getElem (by omega)]
    exact List.getElem_mem _
  have hq : Φ.length ≤ d * Φ.length := Nat.le_mul_of_pos_left _ hd
  refine ⟨hml, hl, fun i hi => ⟨hF.lr _ (hin i hi), hF.len _ (hin i hi), hF.one _ (hin i hi)⟩, fun i h0 hi => ?_, fun i hi => ?_, ?_⟩
  · refine lessL_of _ _ ?_ (hso (i - 1) i (by omega) (by omega)) fun e => ?_
    · rw [hF.len _ (hin i hi), hF.len _ (hin (i - 1) (by omega))]
    · have h1 : M.Pairwise (· ≠ ·) := hfm.nd
      have h2 := (List.pairwise_iff_getElem.1 h1) (i - 1) i (by omega) (by omega) (by omega)
      rw [List.getD_eq_getElem?_getD, List.getD_eq_getElem?_getD, List.getElem?_eq_getElem (by omega), List.getElem?_eq_getElem (by omega)] at e
      exact h2 e
  · obtain ⟨a1, a2, _⟩ := acc_law hF h6 hd hfm (by rw [hml]; omega) i (by omega)
    refine ⟨a1, ?_⟩
    have h3 : (d + 1) * i ≤ (d + 1) * Φ.length := Nat.mul_le_mul_left _ hi
    have h4 : (d + 1) * Φ.length = d * Φ.length + Φ.length := by rw [Nat.add_mul, Nat.one_mul]
    omega
  · rw [← hml]
    exact acc_all hF h6 hd hfm (by rw [hml]; omega)

set_option maxRecDepth 100000 in
set_option maxHeartbeats 40000000 in
theorem factorSplits_any (n : Int) (p : Nat) (w : World) (hp : p ≤ 4294967295) : Calls Try.prog 6 #[.int .i64 n, .int .u32 p] w (RetV w (.bool true)) := by
  have HRD := Lib.hid (fun W : World => rdegree_any n p W hp)
  by_cases hok : DgOk n p
  rotate_left
  · have HE := Lib.hid (cfactors_err n p w hp hok)
    have HNO := Lib.hid hok
    clear hok
    go_enter Try.func6, Try.ntmps6
    go_wp2_with fail
    refine HE.out.mono ?_
    rintro e w1 ⟨rfl, hb1⟩
    have HB1 := Lib.hid hb1
    clear hb1 HE
    go_wp2_with fail
    refine (HRD.out _).mono ?_
    rintro e w2 ⟨hb2, hh⟩
    rcases hh with ⟨_, rfl⟩ | ⟨h, _⟩
    rotate_left
    · exact absurd h HNO.out
    have HB2 := Lib.hid (HB1.out.trans (hb2.mono HB1.out.size))
    clear hb2
    go_wp2_with fail
    refine (awake7_any w2).mono ?_
    rintro e w3 ⟨rfl, hb3⟩
    go_wp2_with fail
    go_ret
    exact ⟨rfl, HB2.out.trans (hb3.mono HB2.out.size)⟩
  obtain ⟨k, rfl, hk2, hk32⟩ := dimF_nat hok.1
  have hpl := hok.2
  have hpr := hpl.2.2.1
  have hp3 := hpl.1
  have hp6 := hpl.2.1
  obtain ⟨d, hd1, hd16, hdp, hdmin⟩ := lin_first (P := fun d => p ^ d % (2 * k) = 1) (a := 1) 16 (by omega) (deg_16 hok.1 (pr_odd hpr hp3))
  have hdg : Dg k p d := ⟨hd1, hdp, hdmin⟩
  obtain ⟨Φ, κ, hF, hfp, hlen⟩ := all_fam hpr hp3 hp6 hok.1 hdg
  have hq1 : 1 ≤ Φ.length := by
    rcases Nat.eq_zero_or_pos Φ.length with e | e
    · rw [e, Nat.mul_zero] at hlen; omega
    · exact e
  have hqk : Φ.length ≤ k := by rw [← hlen]; exact Nat.le_mul_of_pos_left _ hd1
  obtain ⟨L, t1, t2⟩ := fam_tree hF hp3 hp6 hd1 Φ.length (wholeL k) Φ rfl hq1 (by omega) hfp
  have hln : ∀ j, lnL L j ≤ 1000 := fun j => by
    unfold lnL
    rcases Nat.lt_or_ge j L.length with h | h
    · rw [List.getD_eq_getElem?_getD, List.getElem?_eq_getElem h]
      show L[j].length ≤ 1000
      rw [hF.len _ (t2.subset (List.getElem_mem h))]
      omega
    · rw [lnL_out h]; exact Nat.zero_le _
  have HFA := Lib.hid (cfactors_any k p d L w (by omega) hok hdg (prB_yes hpr) (by omega) t1 (by omega) hln (by rw [t2.length_eq]; omega))
  have HS := Lib.hid (fun (M : List (List Nat)) (h1 : M.Perm L) h2 => fsrt_of (M := M) hp6 hd1 hk32 hF hfp hlen (h1.trans t2) h2)
  obtain ⟨q, hq⟩ : ∃ q, Φ.length = q := ⟨_, rfl⟩
  rw [hq] at HS hq1 hqk hlen
  have HDG := Lib.hid hdg
  have HOK := Lib.hid hok
  have HPR := Lib.hid hpr
  clear hok hpl hpr hdp hdmin hdg hF hfp t1 t2 hln hq
  go_enter Try.func6, Try.ntmps6
  go_wp2_with fail
  refine HFA.out.mono ?_
  rintro e w1 ⟨g, c, M, H, cc, rfl, hg, hpm, hso, hce, hel, hb1⟩
  have HT := Lib.hid (HS.out M hpm fun i j h1 h2 => Int.not_lt.1 (hso i j h1 h2))
  have HB1 := Lib.hid hb1
  rw [HT.out.len] at hce hel ⊢
  have HCE := Lib.hid hce
  have HEL := Lib.hid hel
  clear hb1 hpm hso hce hel HFA HS
  go_wp2_with fail
  refine (HRD.out _).mono ?_
  rintro e w2 ⟨hb2, hh⟩
  rcases hh with ⟨h, _⟩ | ⟨_, d', hd', rfl⟩
  · exact absurd HOK.out h
  obtain rfl : d' = d := Dg.uniq hd' HDG.out
  have hg2 : g < w2.heap.size := Nat.lt_of_lt_of_le hg hb2.size
  have HCE2 := Lib.hid (fun j hj => (hb2.cell (p := ⟨g, j, none⟩) hg).trans (HCE.out j hj))
  have HEL2 := Lib.hid (fun j hj => (HEL.out j hj).next hb2)
  have HB2 := Lib.hid (HB1.out.trans (hb2.mono HB1.out.size))
  clear hb2 hd' HRD HCE HEL HB1 hg
  have s1 : ((k : Nat) : Int).tdiv (d' : Int) = (q : Int) := by
    rw [← hlen, Int.tdiv_eq_ediv_of_nonneg (by omega), Int.natCast_mul, Int.mul_ediv_cancel_left _ (by omega)]
  have s2 : IntKind.i64.wrap (q : Int) = (q : Int) := IntWalk.i64_in _ (by omega)
  have hd0 : ¬ (d' : Int) = 0 := by omega
  have HM1 : Hid (∀ i, i < q → lnL M i = d' + 1) := Lib.hid fun i hi => (HT.out.el i hi).2.1
  have HN1 : Hid ((k : Int) + 1 = ((k + 1 : Nat) : Int)) := Lib.hid (by omega)
  go_wp2_with fail
  go_loopw [9, 10] (fun Pv I w' => ∃ i : Nat, I = .int .i64 (i : Int) ∧ i ≤ q ∧ ∃ A c, Pv = .slice A (accL p M i).length c ∧ LS w' 0 w'.heap.size A (accL p M i) ∧ Below w2.heap.size w2 w') (fun _ I _ => q - (intOf I).toNat)
  case atStart => exact ⟨0, rfl, Nat.zero_le _, some ⟨w2.heap.size, 0, none⟩, 1, rfl, (sq_list .u32 w2 22 0 (w2.heap.size + 1) [1] (Nat.zero_le _) (Nat.lt_succ_self _)).wide (Nat.le_refl _) (by simp), (Below.refl _ w2).alloc (Nat.le_refl _) _⟩
  case round =>
    obtain ⟨i, rfl, hi, A, c, rfl, hls, hbl⟩ := hrel
    have HLS := Lib.hid hls
    have HBL := Lib.hid hbl
    have hzr := hbl.size
    by_cases hiq : i < q
    · have e1 : decide ((i : Int) < (q : Int)) = true := decide_eq_true (by omega)
      obtain ⟨r1, r2, r3⟩ := HT.out.el i hiq
      have l1 := (HEL2.out i hiq).next hbl
      have HL1 := Lib.hid l1
      obtain ⟨g2, o2, hH, _, _, hc2⟩ := l1.2 (by omega)
      have k1 := (hbl.cell (p := ⟨g, i, none⟩) hg2).trans (HCE2.out i hiq)
      rw [HM1.out i hiq, hH] at k1
      have k2 := hc2 d' (by omega)
      rw [r3] at k2
      have i0 : 0 ≤ (i : Int) := by omega
      have i1 : (d' : Int) < ((d' + 1 : Nat) : Int) := by omega
      have a1 := (HT.out.acc i (by omega))
      have HMUL := Lib.hid (fun n => rml_call p c (cc i) A (H i) (accL p M i) (M.getD i []) (wr.drewN n) HPR.out (by omega) a1.1 r1 HLS.out HL1.out (by omega))
      rw [hH, r2] at HMUL
      clear l1 hc2 a1 r1 r3 hls
      by_cases h0 : 0 < i
      case' neg =>
        have e2 : decide ((i : Int) > 0) = false := decide_eq_false (by omega)
        have e3 : decide (0 < (i : Int)) = false := decide_eq_false (by omega)
        clear hbl HL1
        go_wp2
        go_quiet (fail)
        go_wp2_with fail
      case' pos =>
        obtain ⟨j, rfl⟩ : ∃ j, i = j + 1 := ⟨i - 1, by omega⟩
        have e2 : decide (((j + 1 : Nat) : Int) > 0) = true := decide_eq_true (by omega)
        have e3 : decide (0 < ((j + 1 : Nat) : Int)) = true := decide_eq_true (by omega)
        have hj1 : ((j + 1 : Nat) : Int) - 1 = (j : Int) := by omega
        have k3 := (hbl.cell (p := ⟨g, j, none⟩) hg2).trans (HCE2.out j (by omega))
        have hlt := HT.out.lt (j + 1) h0 hiq
        rw [Nat.add_sub_cancel] at hlt
        have HLj := Lib.hid ((HEL2.out j (by omega)).next hbl)
        have HLESS := Lib.hid (fun n => less_any (H j) (H (j + 1)) (cc j) (cc (j + 1)) (M.getD j []) (M.getD (j + 1) []) (wr.drewN n) HLj.out HL1.out (by have := HM1.out j (by omega); unfold lnL at this; omega) (by omega))
        rw [hlt, hH, r2] at HLESS
        have j0 : 0 ≤ (j : Int) := by omega
        have j1 : (j : Int) < (q : Int) := by omega
        clear hbl HL1 hlt
        go_wp2
        refine wp_region_quiet_lit (by kernel_rfl) (by kernel_rfl) ?_
        repeat (first | go_big_quiet_step ((exact (HLESS.out _).mono fun e w' hh => ⟨hh.1, by obtain ⟨_, d, hd⟩ := hh; exact ⟨_, hd.trans (World.drewN_drewN _ _ _)⟩⟩)) | quiet_step ((exact (HLESS.out _).mono fun e w' hh => ⟨hh.1, by obtain ⟨_, d, hd⟩ := hh; exact ⟨_, hd.trans (World.drewN_drewN _ _ _)⟩⟩)))
        refine wpQuiet_nil ?_
        rintro _ ⟨nq, rfl⟩
        go_wp2_with fail
      all_goals
        refine (HMUL.out _).mono ?_
        rintro e w3 ⟨A3, c3, rfl, hls3, hb3⟩
        have HL3 := Lib.hid hls3
        have HB3 := Lib.hid (HBL.out.trans (((below_drewN (Below.refl _ _) _).trans hb3).mono hzr))
        clear hls3 hb3 HMUL
        go_wp2
        go_roundw
        case rel => exact ⟨_, by go_num, hiq, A3, c3, rfl, HL3.out, HB3.out⟩
        case measure => simp only [intOf]; omega
    · obtain rfl : q = i := by omega
      have f1 : decide ((q : Int) < (q : Int)) = false := decide_eq_false (by omega)
      rw [HT.out.all] at hls ⊢
      have hlen9 : (wholeL k).length = k + 1 := toL_len _ _
      have HLW := Lib.hid hls
      rw [hlen9]
      clear hls hbl HLS
      go_wp2_with (at_make; refine wpl_make rfl _ _ _ rfl e32f .i64 .i64 _ _ (k + 1) rfl rfl HN1.out HN1.out (by omega) (by unfold maxLen; omega) ?_; intro w4 hr4 hb4 hs4; have q0 := hr4.cell (show 0 < k + 1 by omega); have q1 := hr4.cell (show k < k + 1 by omega); have g0 := hr4.frozen 0; have g1 := hr4.frozen k; have HR4 := Lib.hid hr4; have HB4 := Lib.hid hb4; clear hr4 hb4)
      obtain ⟨w6, hw6⟩ : ∃ w6, w6 = (w4.setCell ⟨wr.heap.size, 0, none⟩ (.int .u32 1)).setCell ⟨wr.heap.size, k, none⟩ (.int .u32 1) := ⟨_, rfl⟩
      rw [← hw6]
      have hb6 : Below wr.heap.size wr w6 := by rw [hw6]; exact (HB4.out.setCell (p := ⟨wr.heap.size, 0, none⟩) (Nat.le_refl _) _).setCell (p := ⟨wr.heap.size, k, none⟩) (Nat.le_refl _) _
      have hrow6 : w6.rowIs wr.heap.size 22 (k + 1) (ku .u32 (wholeF k)) := by
        rw [hw6]
        exact rowIs_set_ku (rowIs_set_ku HR4.out 0 1) k 1
      have hls6 : LS w6 0 w6.heap.size (some ⟨wr.heap.size, 0, none⟩) (wholeL k) := LS.of (Sq.of_row hrow6 (Nat.le_refl _) (Nat.zero_le _) hrow6.lt (fun j hj => by unfold wholeF; rw [if_neg (by omega), if_neg (by omega)]) fun _ _ => rfl)
      have hsm := same7_any (wholeL k).length (wholeL k).length c (k + 1) A (some ⟨wr.heap.size, 0, none⟩) (litF (wholeL k)) (litF (wholeL k)) w6 0 w6.heap.size 0 w6.heap.size (HLW.out.next hb6) hls6 (by omega) (by omega) (Nat.le_refl _) (Nat.le_refl _)
      rw [sameB_refl, hlen9] at hsm
      have HSM := Lib.hid hsm
      have HB6 := Lib.hid (HBL.out.trans (hb6.mono hzr))
      clear hw6 hb6 hrow6 hls6 hsm
      refine HSM.out.mono ?_
      rintro e w7 ⟨rfl, hb7⟩
      have HB7 := Lib.hid (HB2.out.trans ((HB6.out.trans (hb7.mono HB6.out.size)).mono HB2.out.size))
      clear hb7 HSM
      go_wp2_with fail
      refine (awake7_any w7).mono ?_
      rintro e w8 ⟨rfl, hb8⟩
      go_wp2_with fail
      go_ret
      exact ⟨rfl, HB7.out.trans (hb8.mono HB7.out.size)⟩
end Go.Proofs.Ytkklacgoeopekaa
