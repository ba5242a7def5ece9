/- The contract of the reference's Formal of layer 25. -/
import Derived.Test.YtmidpholmgmdpaaFa25
namespace Go.Proofs.Ytmidpholmgmdpaa
open Go.RowKit
set_option linter.unusedVariables false

theorem alloc_at (w : World) (o : Obj) : (w.alloc o).heap[w.heap.size]? = some o := Array.getElem?_push_size
theorem alloc_at2 (w : World) (o o2 : Obj) : ((w.alloc o).alloc o2).heap[w.heap.size + 1]? = some o2 := by
  have e : w.heap.size + 1 = (w.alloc o).heap.size := by simp
  rw [e]
  exact alloc_at _ _
theorem ZOwn.pop' {k : IntKind} {w : World} {base e n c g : Nat} {f : Nat → Int} (h : Z.Own k w base e (some ⟨g, 0, none⟩) n c f) (hn : 0 < n) (h0 : f (n - 1) = 0) : Z.Own k w base e (some ⟨g, 0, none⟩) (n - 1) c f := by
  rcases n with _ | n
  · omega
  · exact ZOwn.pop h h0
def lnO : Value → Nat
  | .slice _ n _ => n
  | _ => 0
theorem NdOk.mark0 {t : Nat} {s : Nat → PS} {n : Nat} {nd : Nat → Bool} (h : NdOk s n nd) (hok : PlnOk t n s) : NdOk s n (mark nd 0) where
  last := mark_le h.last
  reg := fun i hi hn hm => by
    rw [mark_ge (by omega)] at hn
    obtain ⟨h1, h2⟩ := h.reg i hi hn hm
    exact ⟨mark_le h1, mark_le h2⟩
  cst := fun i hi hn k hk hc => by
    rw [mark_ge (by omega)] at hn
    exact mark_le (h.cst i hi hn k hk hc)
  dep := fun j hj hd => by
    by_cases e : j = 0
    · subst e
      exact (depD_bound hok n (Nat.le_refl _)).1
    · rw [mark_ge (by omega)] at hd
      exact h.dep j hj hd
theorem fm_zero {t : Nat} (h3 : 3 ≤ t) (ho : t % 2 = 1) (s : Nat → PS) (nd : Nat → Bool) (q : Nat) : fR t s (mark nd 0) 0 q = dlt 1 q := by
  rw [fR_yes (mark_self nd 0)]
  show bal t (dlt 1 q) = dlt 1 q
  refine bal_of ho (Cg.refl t _) ?_
  unfold dlt
  split <;> omega
theorem fm_start {t : Nat} (h3 : 3 ≤ t) (ho : t % 2 = 1) (s : Nat → PS) (nd : Nat → Bool) (w : World) :
    FmR t s (mark nd 0) ((w.alloc (.cells #[.int .i64 0, .int .i64 1] 2)).alloc (.cells #[.slice (some ⟨w.heap.size, 0, none⟩) 2 2] 23)) w.heap.size 0 (.slice (some ⟨w.heap.size + 1, 0, none⟩) 1 1) (fun _ => some ⟨w.heap.size, 0, none⟩) (fun _ => 2) (fun _ => 2) where
  row := ⟨rfl, .inr ⟨w.heap.size + 1, 1, #[.slice (some ⟨w.heap.size, 0, none⟩) 2 2], rfl, by omega, alloc_at2 _ _ _, Nat.le_refl _, by unfold maxLen; omega, rfl, rfl⟩⟩
  own := fun j hj => by
    obtain rfl : j = 0 := by omega
    refine Z.Own.alloc ?_ _
    refine Z.Own.of_row (f := dlt 1) ?_ (Nat.le_refl _) (Nat.le_refl _) (by unfold maxLen; omega) (fun q hq => ?_) (fun q _ => (fm_zero h3 ho s nd q).symm)
    · exact World.rowIs_alloc w #[.int .i64 0, .int .i64 1] 2 _ fun i hi => by
        have hi2 : i < 2 := by simpa using hi
        rcases i with _ | _ | i
        · rfl
        · rfl
        · omega
    · rw [fm_zero h3 ho]
      exact if_neg (by omega)
  min := fun j hj _ => by
    obtain rfl : j = 0 := by omega
    rw [fm_zero h3 ho]
    show (if 2 - 1 = 1 then (1 : Int) else 0) ≠ 0
    rw [if_pos rfl]
    omega
  le := fun _ _ => by omega
def RetFm (t n : Nat) (s : Nat → PS) (w : World) (e : Ending) (w' : World) : Prop :=
  ∃ (A : Option Addr) (m c : Nat), e = .returned (.tuple #[.slice A m c, .bool true]) ∧ Z.Sq .i64 w' 0 w'.heap.size A m (fun q => bal t (plD s n q)) ∧ m ≤ 257 ∧ (0 < m → bal t (plD s n (m - 1)) ≠ 0) ∧ Below w.heap.size w w'
theorem deg_le {t n i : Nat} {s : Nat → PS} {nd : Nat → Bool} {m : Nat} (hok : PlnOk t n s) (hd8 : depD s n ≤ 8) (hnd : NdOk s n nd) (hi : i ≤ n) (h : nd i = true) (hm : bal t (plD s i m) ≠ 0) : m ≤ 256 := by
  rcases Nat.lt_or_ge 256 m with h1 | h1
  · have h2 := hnd.dep i hi h
    have h3 := Nat.pow_le_pow_right (show 0 < 2 by omega) (show (depD s i).toNat ≤ 8 by omega)
    rw [plD_deg hok i hi m (by omega), bal_zero] at hm
    exact absurd rfl hm
  · exact h1

set_option maxRecDepth 100000 in
set_option maxHeartbeats 400000000 in
theorem rformal25_any (t n c : Nat) (A : Option Addr) (s : Nat → PS) (w : World) (ht3 : 3 ≤ t) (htm : t ≤ 2147483647) (hodd : t % 2 = 1) (hs : Pln w w.heap.size A n s) (hok : PlnOk t n s) (hn : n ≤ 600) (hd8 : depD s n ≤ 8) :
    Calls Try.prog 21 #[.int .u32 t, .slice A n c, .int .i64 256] w (RetFm t n s w) := by
  have HND := Lib.hid (rneeded25_any t n c A s w hs hok hn)
  have HS := Lib.hid hs
  have HOK := Lib.hid hok
  have HD8 := Lib.hid hd8
  clear hs hok hd8
  go_enter Try.func21, Try.ntmps21
  go_wp2_with fail
  refine HND.out.mono ?_
  rintro e w1 ⟨b0, nd0, rfl, hb0a, hb0, hrow0, hb1, hnd0⟩
  have HB1 := Lib.hid hb1
  have HNO := Lib.hid (hnd0.mark0 HOK.out)
  have HR0 := Lib.hid hrow0
  have hz1 := hb1.size
  clear hb1 hrow0 hnd0 HND
  go_wp2_with fail
  have HF0 := Lib.hid (fm_start ht3 hodd s nd0 w1)
  have HBA : Hid (Below w1.heap.size w1 ((w1.alloc (.cells #[.int .i64 0, .int .i64 1] 2)).alloc (.cells #[.slice (some ⟨w1.heap.size, 0, none⟩) 2 2] 23))) := Lib.hid (((Below.refl _ w1).alloc (Nat.le_refl _) _).alloc (by simp) _)
  go_loopw [9, 10] (fun O I w' => ∃ (i : Nat) (G : Nat → Option Addr) (l cc : Nat → Nat), I = .int .i64 (i : Int) ∧ i ≤ n ∧ FmR t s (mark nd0 0) w' w1.heap.size i O G l cc ∧ Below w1.heap.size w1 w') (fun _ I _ => n - (intOf I).toNat)
  case atStart => exact ⟨0, _, _, _, rfl, Nat.zero_le _, HF0.out, HBA.out⟩
  case round =>
    clear HF0 HBA
    obtain ⟨i, G, l, cc, rfl, hin, hfm, hbl⟩ := hrel
    have HFM := Lib.hid hfm
    have HBE := Lib.hid hbl
    have hzr := hbl.size
    clear hfm hbl
    by_cases hi : i < n
    rotate_left
    · obtain rfl : n = i := by omega
      have e3 : decide ((n : Int) < (n : Int)) = false := decide_eq_false (by omega)
      obtain ⟨g, cO, cur, rfl, _, ⟨_, hg⟩, hcell⟩ := HFM.out.at
      have k1 := hcell n (Nat.le_refl _)
      have i0 : 0 ≤ (n : Int) := by omega
      have i1 : (n : Int) < ((n : Int) + 1) := by omega
      clear hcell
      go_wp2
      go_ret2
      refine ⟨_, _, _, rfl, ((HFM.out.own n (Nat.le_refl _)).sq (Nat.zero_le _)).congr fun q => fR_yes HNO.out.last q, HFM.out.le n (Nat.le_refl _), fun hp => ?_, HB1.out.trans (HBE.out.mono hz1)⟩
      have := HFM.out.min n (Nat.le_refl _) hp
      rw [fR_yes HNO.out.last] at this
      exact this
    have e3 : decide ((i : Int) < (n : Int)) = true := decide_eq_true (by omega)
    obtain ⟨g, off, hAe, hg, hst⟩ := (HS.out.below HB1.out).below (HBE.out.mono hz1) (by omega)
    obtain ⟨k0, k1, k2, k3, C, cC, k4, hsq, hsn⟩ := hst i hi
    have r1 : wr.cell? ⟨b0, i + 1, none⟩ = some (.bool (mark nd0 0 (i + 1))) := by
      rw [HBE.out.cell (p := ⟨b0, i + 1, none⟩) hb0, HR0.out.cell (show i + 1 < n + 1 by omega), mark_ge (by omega)]
      rfl
    rw [hAe]
    have i0 : 0 ≤ (i : Int) := by omega
    have i1 : (i : Int) < (n : Int) := by omega
    have i2 : 0 ≤ (i : Int) + 1 := by omega
    have i3 : (i : Int) + 1 < (n : Int) + 1 := by omega
    have i4 : ((i : Int) + 1).toNat = i + 1 := by omega
    have hstep := HOK.out i hi
    obtain ⟨P, hP⟩ : ∃ P, P = pk s (s i) := ⟨_, rfl⟩
    obtain ⟨PJ, hPJ⟩ : ∃ PJ, PJ = pkj s (s i) := ⟨_, rfl⟩
    have HPA : Hid (∀ q, P (s i).n q = plD s (i + 1) q) := Lib.hid fun q => by rw [hP, pk_all hstep]
    have HP0 : Hid (∀ q, P 0 q = (if (s i).mul = true then cnv (plD s (s i).a.toNat) (plD s (s i).b.toNat) q else if q = 0 then (s i).first else 0)) := Lib.hid fun q => by rw [hP]; exact Int.add_zero _
    have HJ0 : Hid (∀ k q, PJ k 0 q = P k q) := Lib.hid fun k q => by rw [hPJ, hP]; exact pkj_zero s _ k q
    have HJO : Hid (∀ k j q, q ≠ j → PJ k (j + 1) q = PJ k j q) := Lib.hid fun k j q h => by rw [hPJ]; exact pkj_other s _ k j q h
    have HJH : Hid (∀ k j, PJ k (j + 1) j = PJ k j j + (s i).cs k * plD s k j) := Lib.hid fun k j => by rw [hPJ]; exact pkj_here s _ k j
    have HCN : Hid (mark nd0 0 (i + 1) = true → ∀ k, k < (s i).n → (s i).cs k ≠ 0 → mark nd0 0 k = true) := Lib.hid fun h => HNO.out.cst i hi h
    have HRG : Hid (mark nd0 0 (i + 1) = true → (s i).mul = true → mark nd0 0 (s i).a.toNat = true ∧ mark nd0 0 (s i).b.toNat = true) := Lib.hid fun h => HNO.out.reg i hi h
    have HJA : Hid (∀ k, ((s i).cs k ≠ 0 → mark nd0 0 k = true) → ∀ m, (∀ q, m ≤ q → fR t s (mark nd0 0) k q = 0) → ∀ q, bal t (PJ k m q) = bal t (P (k + 1) q)) := Lib.hid fun k h m hm q => by rw [hP, hPJ]; exact pkj_all h hm q
    obtain ⟨S, hS⟩ : ∃ x, s i = x := ⟨_, rfl⟩
    rw [hS] at k0 k1 k2 k3 k4 hsq hsn hstep HPA HP0 HJH HCN HRG HJA
    obtain ⟨sm, sa, sb, sf, sn, cs⟩ := S
    simp only at k0 k1 k2 k3 k4 hsq hsn HPA HP0 HJH HCN HRG HJA
    obtain ⟨w9, hw9⟩ : ∃ w9, w9 = wr.alloc (.cells #[.bool sm, .int .i64 sa, .int .i64 sb, .int .i64 sf, .slice C sn cC] 37) := ⟨_, rfl⟩
    have hb9 : Below wr.heap.size wr w9 := by rw [hw9]; exact (Below.refl _ wr).alloc (Nat.le_refl _) _
    have HB9 := Lib.hid (HBE.out.trans (hb9.mono hzr))
    have HZ9 : Hid (w9.heap.size = wr.heap.size + 1) := Lib.hid (by rw [hw9]; simp)
    have hz9 : wr.heap.size < w9.heap.size := by rw [HZ9.out]; omega
    have HF9 := Lib.hid (HFM.out.below hb9)
    have HQ9 := Lib.hid (hsq.below (hb9.mono (Nat.le_trans hz1 hzr)) (Nat.le_refl _))
    have r9 : w9.cell? ⟨b0, i + 1, none⟩ = some (.bool (mark nd0 0 (i + 1))) := (hb9.cell (p := ⟨b0, i + 1, none⟩) (show b0 < wr.heap.size by omega)).trans r1
    have q0 : w9.cell? ⟨wr.heap.size, 0, none⟩ = some (.bool sm) := by rw [hw9, World.cell?_alloc_new]; rfl
    have q1 : w9.cell? ⟨wr.heap.size, 1, none⟩ = some (.int .i64 sa) := by rw [hw9, World.cell?_alloc_new]; rfl
    have q2 : w9.cell? ⟨wr.heap.size, 2, none⟩ = some (.int .i64 sb) := by rw [hw9, World.cell?_alloc_new]; rfl
    have q3 : w9.cell? ⟨wr.heap.size, 3, none⟩ = some (.int .i64 sf) := by rw [hw9, World.cell?_alloc_new]; rfl
    have q4 : w9.cell? ⟨wr.heap.size, 4, none⟩ = some (.slice C sn cC) := by rw [hw9, World.cell?_alloc_new]; rfl
    have HQW : Hid (∀ w' : World, Below w9.heap.size w9 w' → w'.cell? ⟨wr.heap.size, 4, none⟩ = some (.slice C sn cC)) := Lib.hid fun w' h => (h.cell (p := ⟨wr.heap.size, 4, none⟩) hz9).trans q4
    obtain ⟨g9, cO, cur9, hO, _, ⟨hg9b, hg9⟩, hcell9⟩ := HF9.out.at
    have HC9 := Lib.hid hcell9
    have HST := Lib.hid hstep
    have HW9 := Lib.hid hw9
    subst hO
    clear hst hsq hAe hS hb9 hw9 hstep hP hPJ hcell9
    have hsn1 : sn ≤ i + 1 := HST.out.regs.2
    have htp : ¬ t = 0 := by omega
    cases hnd : mark nd0 0 (i + 1) with
    | false =>
      rw [hnd, HW9.out] at r9
      have HOF : Hid (∀ W : World, Z.Own .i64 W w1.heap.size 2 none 0 0 (fR t s (mark nd0 0) (i + 1))) := Lib.hid fun W => (Z.Own.nil .i64 W w1.heap.size 2).congr fun q => (fR_no hnd q).symm
      clear hnd
      have hzz : w1.heap.size ≤ w9.heap.size := by omega
      have HFA := Lib.hid (HF9.out.below ((Below.refl _ w9).alloc (Nat.le_refl _) (.cells #[.slice none 0 0] 23)))
      have HBB := Lib.hid ((Below.refl w9.heap.size w9).alloc (Nat.le_refl _) (.cells #[.slice none 0 0] 23))
      go_wp2_with (at_builtin; go_loud (rw [← HW9.out]; refine wpl_append1 (v := .slice (some ⟨g9, 0, none⟩) (i + 1) cO) (z := .slice none 0 0) (bytes := 24) rfl _ _ _ rfl Try.underlying72 (by kernel_rfl) (by kernel_rfl) rfl HFA.out.row (u := .slice none 0 0) rfl (by rw [← HZ9.out, World.cell?_alloc_new]; rfl) rfl (by unfold maxLen; omega) (by omega) (by simp; omega) ?_); intro O' w' hr' hg')
      have hfm' := HFA.out.push (HOF.out _) (fun h => absurd h (by omega)) (by omega) hr' hg'
      have hbl' := HB9.out.trans ((HBB.out.mono hzz).trans ((Below.refl _ _).grown hg' (by simp; omega) (fun q hq => by simp only [Value.ownBlock, Option.some.injEq] at hq; subst hq; exact hg9b)))
      go_roundw
      case rel => exact ⟨i + 1, _, _, _, by go_num, hi, hfm', hbl'⟩
      case measure => simp only [intOf]; omega
    | true =>
      rw [hnd, HW9.out] at r9
      have HCN2 := Lib.hid (HCN.out hnd)
      have HRG2 := Lib.hid (HRG.out hnd)
      have HND2 := Lib.hid hnd
      clear hnd HCN HRG
      obtain ⟨w10, hw10⟩ : ∃ w10, w10 = w9.alloc (.cells #[.int .i64 sf] 2) := ⟨_, rfl⟩
      have hb10 : Below w9.heap.size w9 w10 := by rw [hw10]; exact (Below.refl _ w9).alloc (Nat.le_refl _) _
      have hz10 := hb10.size
      have HB10 := Lib.hid hb10
      have HW10 := Lib.hid hw10
      cases sm with
      | true =>
        have hstep := HST.out
        unfold stepOk at hstep
        rw [if_pos rfl] at hstep
        obtain ⟨⟨a0, a1, b0', b1⟩, f0, n0⟩ := hstep
        simp only at a0 a1 b0' b1 f0 n0
        subst f0
        have HN0 := Lib.hid n0
        clear n0
        obtain ⟨a, rfl, ha⟩ := toNat_reg a0 a1
        obtain ⟨b, rfl, hb⟩ := toNat_reg b0' b1
        have m1 := (hb10.cell (p := ⟨g9, a, none⟩) hg9).trans (HC9.out a (by omega))
        have m2 := (hb10.cell (p := ⟨g9, b, none⟩) hg9).trans (HC9.out b (by omega))
        have p1 := (hb10.cell (p := ⟨wr.heap.size, 1, none⟩) hz9).trans q1
        have p2 := (hb10.cell (p := ⟨wr.heap.size, 2, none⟩) hz9).trans q2
        have j1 : (a : Int) < ((i : Int) + 1) := by omega
        have j2 : (b : Int) < ((i : Int) + 1) := by omega
        have j3 : 0 ≤ (a : Int) := by omega
        have j4 : 0 ≤ (b : Int) := by omega
        have l1 := HF9.out.le a ha
        have l2 := HF9.out.le b hb
        obtain ⟨na, nb⟩ := HRG2.out rfl
        simp only [Int.toNat_natCast] at na nb
        have HPR := Lib.hid (fun d : Nat => rproduct25_any t (l a) (cc a) (l b) (cc b) (G a) (G b) (fR t s (mark nd0 0) a) (fR t s (mark nd0 0) b) (w10.drewN d) ht3 htm hodd ((((HF9.out.own a ha).sq (Nat.zero_le _)).below hb10 (Nat.le_refl _)).wide (Nat.zero_le _) hz10) ((((HF9.out.own b hb).sq (Nat.zero_le _)).below hb10 (Nat.le_refl _)).wide (Nat.zero_le _) hz10) (by omega) (by omega) (fun q => by have := fR_bound hodd htm s (mark nd0 0) a q; omega) (fun q => by have := fR_bound hodd htm s (mark nd0 0) b q; omega))
        have HPP : Hid (∀ q, bal t (cnv (fR t s (mark nd0 0) a) (fR t s (mark nd0 0) b) q) = bal t (P 0 q)) := Lib.hid fun q => by
          rw [HP0.out q, if_pos rfl]
          simp only [Int.toNat_natCast]
          exact bal_congr (cnv_cg (fun q => by rw [fR_yes na]; exact bal_cg t _) (fun q => by rw [fR_yes nb]; exact bal_cg t _) q)
        have HPZ : Hid (∀ q, l a + l b ≤ q → bal t (P 0 q) = 0) := Lib.hid fun q hq => by
          rw [← HPP.out q, cnv_len (HF9.out.own a ha).1 (HF9.out.own b hb).1 q hq, bal_zero]
        have HCB : Hid (∀ k, k < sn → -1073741823 ≤ cs k ∧ cs k ≤ 1073741823) := Lib.hid fun k hk => by have := HN0.out; omega
        clear na nb hb10 hw10
        go_wp2
        rw [← HW9.out, ← HW10.out]
        refine wp_region_quiet_tail 11 (by kernel_rfl) (by kernel_rfl) ?_
        simp only [List.take_succ_cons, List.take_zero, List.drop_succ_cons, List.drop_zero]
        repeat (go_big_quiet_step (fail))
        refine wpQuiet_nil ?_
        rintro _ ⟨d2, rfl⟩
        go_wp2_with fail
        refine (HPR.out d2).mono ?_
        rintro e wo ⟨bo, rfl, hbo, hbo2, hrowo, hblo⟩
        have hbo' : w10.heap.size ≤ bo := hbo
        have hmo : l a + l b ≤ 514 := by omega
        have HOUT : Hid (Z.Own .i64 wo w9.heap.size 2 (some ⟨bo, 0, none⟩) (l a + l b) (l a + l b) (fun q => bal t (P 0 q))) := Lib.hid (Z.Own.of_row hrowo (by omega) (Nat.le_refl _) (by unfold maxLen; omega) HPZ.out fun q _ => HPP.out q)
        have HBO : Hid (Below w9.heap.size w9 wo) := Lib.hid ((below_drewN HB10.out d2).trans (hblo.mono hz10))
        clear hrowo hblo m1 m2 p1 p2 HPR
        go_wp2
        go_loopw [12, 13] (fun O K w' => ∃ (k : Nat) (A2 : Option Addr) (m2 c2 : Nat), K = .int .i64 (k : Int) ∧ k ≤ sn ∧ O = .slice A2 m2 c2 ∧ m2 ≤ 514 ∧ Z.Own .i64 w' w9.heap.size 2 A2 m2 c2 (fun q => bal t (P k q)) ∧ Below w9.heap.size w9 w') (fun _ K _ => sn - (intOf K).toNat)
        case atStart => exact ⟨0, _, _, _, rfl, Nat.zero_le _, rfl, hmo, HOUT.out, HBO.out⟩
        case round =>
          clear HOUT HBO
          obtain ⟨k, A2, m2, c2, rfl, hk, rfl, hm2, hown2, hbl2⟩ := hrel
          have HOWN2 := Lib.hid hown2
          have HBL2 := Lib.hid hbl2
          have q4k := HQW.out _ hbl2
          clear hown2 hbl2
          by_cases hks : k < sn
          · have e5 : decide ((k : Int) < (sn : Int)) = true := decide_eq_true (by omega)
            go_wp2
            go_loopw [12, 14] (fun O J w' => ∃ (j : Nat) (A3 : Option Addr) (m3 c3 : Nat), J = .int .i64 (j : Int) ∧ j ≤ l k ∧ O = .slice A3 m3 c3 ∧ m3 ≤ 514 ∧ Z.Own .i64 w' w9.heap.size 2 A3 m3 c3 (fun q => bal t (PJ k j q)) ∧ Below w9.heap.size w9 w') (fun _ J _ => l k - (intOf J).toNat)
            case atStart => exact ⟨0, _, _, _, rfl, Nat.zero_le _, rfl, hm2, HOWN2.out.congr (fun q => by rw [HJ0.out]), HBL2.out⟩
            case round =>
              clear HOWN2 HBL2 q4k
              obtain ⟨j, A3, m3, c3, rfl, hj, rfl, hm3, hown3, hbl3⟩ := hrel
              have HOWN3 := Lib.hid hown3
              have HBL3 := Lib.hid hbl3
              have q9j := (hbl3.cell (p := ⟨g9, k, none⟩) hg9).trans (HC9.out k (by omega))
              clear hown3 hbl3
              have i5 : 0 ≤ (k : Int) := by omega
              have i6 : (k : Int) < (i : Int) + 1 := by omega
              by_cases hjl : j < l k
              · have e6 : decide ((j : Int) < ((l k : Nat) : Int)) = true := decide_eq_true (by omega)
                have hlk := HF9.out.le k (by omega)
                go_wp2
                go_loopw [12] (fun O w' => ∃ (A4 : Option Addr) (m4 c4 : Nat), O = .slice A4 m4 c4 ∧ m4 ≤ 514 ∧ Z.Own .i64 w' w9.heap.size 2 A4 m4 c4 (fun q => bal t (PJ k j q)) ∧ Below w9.heap.size w9 w') (fun O _ => j + 1 - lnO O)
                case atStart => exact ⟨_, _, _, rfl, hm3, HOWN3.out, HBL3.out⟩
                case round =>
                  clear HOWN3 HBL3 q9j
                  obtain ⟨A4, m4, c4, rfl, hm4, hown4, hbl4⟩ := hrel
                  have HOWN4 := Lib.hid hown4
                  have HBL4 := Lib.hid hbl4
                  have hz4 := hbl4.size
                  have q4j := HQW.out _ hbl4
                  have q9j := (hbl4.cell (p := ⟨g9, k, none⟩) hg9).trans (HC9.out k (by omega))
                  clear hown4 hbl4
                  by_cases hmj : m4 ≤ j
                  · have e7 : decide ((m4 : Int) ≤ (j : Int)) = true := decide_eq_true (by omega)
                    have HZ : Hid (∀ u, bal t (PJ k j (m4 + u)) = Z.oneF 0 u) := Lib.hid fun u => by
                      rw [show bal t (PJ k j (m4 + u)) = 0 from HOWN4.out.1 (m4 + u) (by omega)]
                      unfold Z.oneF
                      rw [ite_self]
                    clear q4j q9j
                    go_wp2_with (at_builtin; refine Z.wpl_append rfl _ _ _ rfl e64s' rfl (HOWN4.out.alloc _) rfl (Z.sq_one (x := 0) (lo := 0) rfl (Nat.zero_le _) (Nat.lt_succ_self _)) (fun q => bal t (PJ k j q)) (fun _ _ => rfl) HZ.out (by unfold maxLen; omega) (by omega) (by simp; omega) ?_; intro A5 c5 w5 hown5 hg5 hb5 hat5)
                    go_roundw
                    case rel => exact ⟨A5, _, c5, rfl, by omega, hown5, HBL4.out.trans (((Below.refl _ _).alloc hz4 _).trans hb5)⟩
                    case measure => simp only [lnO]; omega
                  · have e7 : decide ((m4 : Int) ≤ (j : Int)) = false := decide_eq_false (by omega)
                    rcases HOWN4.out.cases with ⟨_, h0, _⟩ | ⟨g4, rfl, hg4b, hg4, hmc4, _, hc4, hf4⟩
                    · omega
                    have k3 := hc4 j (by omega)
                    have f3 := hf4 j
                    simp only [Z.ku] at k3
                    obtain ⟨g2, off2, hC, _, hg2, hcc⟩ := (HQ9.out.below HBL4.out (by omega)).2 (by omega)
                    have k5 := hcc k hks
                    obtain ⟨gk, offk, hGk, _, hgk, hcr⟩ := (((HF9.out.own k (by omega)).sq (Nat.zero_le _)).below HBL4.out (Nat.le_refl _)).2 (by omega)
                    have k6 := hcr j hjl
                    rw [hC] at q4j
                    rw [hGk] at q9j
                    have b1 := HCB.out k hks
                    have b2 := fR_bound hodd htm s (mark nd0 0) k j
                    have b3 := bal_bound hodd (PJ k j j)
                    obtain ⟨x, hx⟩ : ∃ x, cs k = x := ⟨_, rfl⟩
                    obtain ⟨y, hy⟩ : ∃ y, fR t s (mark nd0 0) k j = y := ⟨_, rfl⟩
                    obtain ⟨u, hu⟩ : ∃ u, bal t (PJ k j j) = u := ⟨_, rfl⟩
                    have HCG := Lib.hid (fR_cg (t := t) (s := s) (HCN2.out k hks) j)
                    rw [hx] at k5 b1
                    rw [hy] at k6 b2
                    rw [hu] at k3 b3
                    have c1 := mul_b (h := 1073741823) (by omega) (by omega) b1 b2
                    obtain ⟨z, hz⟩ : ∃ z, x * y = z := ⟨_, rfl⟩
                    rw [hz] at c1
                    have w1' : wrap64 (x * y) = z := by rw [hz]; exact wrap64_eq (by omega) (by omega)
                    have w2' : wrap64 (u + z) = u + z := wrap64_eq (by omega) (by omega)
                    have HNEW : Hid (bal t (u + z) = bal t (PJ k (j + 1) j)) := Lib.hid (bal_congr (by
                      rw [HJH.out, ← hu, ← hz, ← hx, ← hy]
                      exact (bal_cg t _).add HCG.out))
                    have HBA := Lib.hid (fun W : World => rbal8_any (u + z) t W ht3 htm hodd)
                    have i7 : 0 ≤ (j : Int) := by omega
                    have i8 : (j : Int) < ((l k : Nat) : Int) := by omega
                    have i9 : (j : Int) < (m4 : Int) := by omega
                    have i10 : (k : Int) < (sn : Int) := by omega
                    clear hc4 hf4 hcc hcr hx hy hu hz hC hGk
                    go_wp2
                    refine wp_region_quiet_tail 24 (by kernel_rfl) (by kernel_rfl) ?_
                    simp only [List.take_succ_cons, List.take_zero, List.drop_succ_cons, List.drop_zero]
                    repeat (go_big_quiet_step ((exact (HBA.out _).mono fun e w' hh => ⟨hh.1, _, hh.2.symm⟩)))
                    refine wpQuiet_nil ?_
                    rintro _ ⟨d2, rfl⟩
                    go_wp2
                    all_goals go_roundw
                    case rel =>
                      refine ⟨j + 1, _, m4, c4, by go_num, hjl, rfl, hm4, (ZOwn.set (w := wr.drewN d2) HOWN4.out (show j < m4 by omega) _).congr fun q => ?_, (below_drewN HBL4.out d2).setCell (p := ⟨g4, j, none⟩) hg4b _⟩
                      by_cases hq : q = j
                      · rw [if_pos hq, hq, HNEW.out]
                      · rw [if_neg hq, HJO.out _ _ _ hq]
                    case measure => simp only [intOf]; omega
              · obtain rfl : l k = j := by omega
                have e6 : decide (((l k : Nat) : Int) < ((l k : Nat) : Int)) = false := decide_eq_false (by omega)
                go_wp2
                go_roundw
                case rel => exact ⟨k + 1, A3, m3, c3, by go_num, hks, rfl, hm3, HOWN3.out.congr (fun q => HJA.out k (HCN2.out k hks) (l k) (HF9.out.own k (by omega)).1 q), HBL3.out⟩
                case measure => simp only [intOf]; omega
          · obtain rfl : sn = k := by omega
            have e5 : decide ((sn : Int) < (sn : Int)) = false := decide_eq_false (by omega)
            go_wp2
            go_loopw [12] (fun O w' => ∃ (A5 : Option Addr) (m5 c5 : Nat), O = .slice A5 m5 c5 ∧ m5 ≤ 514 ∧ Z.Own .i64 w' w9.heap.size 2 A5 m5 c5 (fun q => bal t (plD s (i + 1) q)) ∧ Below w9.heap.size w9 w') (fun O _ => lnO O)
            case atStart => exact ⟨_, _, _, rfl, hm2, HOWN2.out.congr (fun q => by rw [HPA.out]), HBL2.out⟩
            case round =>
              clear HOWN2 HBL2 q4k
              obtain ⟨A5, m5, c5, rfl, hm5, hown5, hbl5⟩ := hrel
              have HOWN5 := Lib.hid hown5
              have HBL5 := Lib.hid hbl5
              have hz5 := hbl5.size
              have HFA := Lib.hid ((HF9.out.below hbl5).below ((Below.refl _ wr).alloc (Nat.le_refl _) (.cells #[.slice A5 m5 c5] 23)))
              have HOA : Hid (Z.Own .i64 (wr.alloc (.cells #[.slice A5 m5 c5] 23)) w1.heap.size 2 A5 m5 c5 (fR t s (mark nd0 0) (i + 1))) := Lib.hid (((hown5.base (show w1.heap.size ≤ w9.heap.size by omega)).alloc _).congr fun q => (fR_yes HND2.out q).symm)
              have HBB : Hid (Below w1.heap.size w1 (wr.alloc (.cells #[.slice A5 m5 c5] 23))) := Lib.hid ((HB9.out.trans (hbl5.mono (by omega))).alloc (by omega) _)
              clear hown5 hbl5
              by_cases hm0 : m5 = 0
              · subst hm0
                go_wp2_with (at_builtin; refine wpl_append1 (v := .slice (some ⟨g9, 0, none⟩) (i + 1) cO) (z := .slice none 0 0) (bytes := 24) rfl _ _ _ rfl Try.underlying72 (by kernel_rfl) (by kernel_rfl) rfl HFA.out.row (u := .slice A5 0 c5) rfl (by rw [World.cell?_alloc_new]; rfl) rfl (by unfold maxLen; omega) (by omega) (by simp; omega) ?_; intro O' w' hr' hg')
                have hfm' := HFA.out.push HOA.out (fun h => absurd h (by omega)) (by omega) hr' hg'
                have hbl' := HBB.out.trans ((Below.refl _ _).grown hg' (by simp; omega) (fun q hq => by simp only [Value.ownBlock, Option.some.injEq] at hq; subst hq; exact hg9b))
                go_roundw
                case rel => exact ⟨i + 1, _, _, _, by go_num, hi, hfm', hbl'⟩
                case measure => simp only [intOf]; omega
              · rcases HOWN5.out.cases with ⟨_, h0, _⟩ | ⟨g5, rfl, hg5b, hg5, hmc5, _, hc5, hf5⟩
                · omega
                have d1 : decide ((m5 : Int) > 0) = true := decide_eq_true (by omega)
                have d2 : decide (0 < m5) = true := decide_eq_true (by omega)
                have k5 := hc5 (m5 - 1) (by omega)
                simp only [Z.ku] at k5
                have i5 : 0 ≤ (m5 : Int) - 1 := by omega
                have i6 : (m5 : Int) - 1 < (m5 : Int) := by omega
                have i7 : ((m5 : Int) - 1).toNat = m5 - 1 := by omega
                have i8 : (m5 : Int) - 1 ≤ (c5 : Int) := by omega
                have HDG := Lib.hid (deg_le (t := t) (m := m5 - 1) HOK.out HD8.out HNO.out (show i + 1 ≤ n by omega) HND2.out)
                clear hc5 hf5
                by_cases hv : bal t (plD s (i + 1) (m5 - 1)) = 0
                · rw [hv] at k5
                  have HPOP := Lib.hid (ZOwn.pop' HOWN5.out (by omega) hv)
                  clear hv
                  go_wp2
                  go_roundw
                  case rel => exact ⟨_, m5 - 1, c5, rfl, by omega, HPOP.out, HBL5.out⟩
                  case measure => simp only [lnO]; omega
                · have hdg := HDG.out hv
                  have d4 : (bal t (plD s (i + 1) (m5 - 1)) == 0) = false := by rw [beq_eq_false_iff_ne]; exact hv
                  have d5 : decide ((m5 : Int) - 1 > 256) = false := decide_eq_false (by omega)
                  have d6 : decide (256 < (m5 : Int) - 1) = false := decide_eq_false (by omega)
                  have HV : Hid (fR t s (mark nd0 0) (i + 1) (m5 - 1) ≠ 0) := Lib.hid (by rw [fR_yes HND2.out]; exact hv)
                  obtain ⟨v, hvv⟩ : ∃ v, bal t (plD s (i + 1) (m5 - 1)) = v := ⟨_, rfl⟩
                  rw [hvv] at k5 d4
                  clear hv hvv
                  go_wp2_with (at_builtin; refine wpl_append1 (v := .slice (some ⟨g9, 0, none⟩) (i + 1) cO) (z := .slice none 0 0) (bytes := 24) rfl _ _ _ rfl Try.underlying72 (by kernel_rfl) (by kernel_rfl) rfl HFA.out.row (u := .slice (some ⟨g5, 0, none⟩) m5 c5) rfl (by rw [World.cell?_alloc_new]; rfl) rfl (by unfold maxLen; omega) (by omega) (by simp; omega) ?_; intro O' w' hr' hg')
                  have hfm' := HFA.out.push HOA.out (fun _ => HV.out) (by omega) hr' hg'
                  have hbl' := HBB.out.trans ((Below.refl _ _).grown hg' (by simp; omega) (fun q hq => by simp only [Value.ownBlock, Option.some.injEq] at hq; subst hq; exact hg9b))
                  go_roundw
                  case rel => exact ⟨i + 1, _, _, _, by go_num, hi, hfm', hbl'⟩
                  case measure => simp only [intOf]; omega
      | false =>
        have hstep2 := HST.out
        unfold stepOk at hstep2
        rw [if_neg Bool.false_ne_true] at hstep2
        obtain ⟨a0, b0', n0, f0, hcb⟩ := hstep2
        simp only at a0 b0' n0 f0 hcb
        subst a0
        subst b0'
        have HCB : Hid (∀ k, k < sn → -1073741823 ≤ cs k ∧ cs k ≤ 1073741823) := Lib.hid fun k hk => balB_b htm (hcb k hk)
        have HPS : Hid (∀ q, bal t (P 0 q) = Z.oneF sf q) := Lib.hid fun q => by
          rw [HP0.out q, if_neg Bool.false_ne_true]
          unfold Z.oneF
          split
          · exact bal_of hodd (Cg.refl t _) (balB_yes.1 f0)
          · exact bal_zero t
        have hmo : 1 ≤ 514 := by omega
        have HOUT : Hid (Z.Own .i64 w10 w9.heap.size 2 (some ⟨w9.heap.size, 0, none⟩) 1 1 (fun q => bal t (P 0 q))) := Lib.hid (by
          rw [HW10.out]
          refine Z.Own.of_row (f := fun _ => sf) (World.rowIs_alloc w9 #[.int .i64 sf] 2 _ fun q hq => ?_) (Nat.le_refl _) (Nat.le_refl _) (by unfold maxLen; omega) (fun q hq => ?_) (fun q hq => ?_)
          · obtain rfl : q = 0 := by simp at hq; omega
            rfl
          · show bal t (P 0 q) = 0
            rw [HPS.out]; exact if_neg (by omega)
          · show sf = bal t (P 0 q)
            rw [HPS.out]; exact (if_pos (by omega)).symm)
        have HBO : Hid (Below w9.heap.size w9 w10) := Lib.hid hb10
        clear f0 hcb hb10 hw10
        go_wp2
        rw [← HW9.out, ← HW10.out, ← HZ9.out]
        go_loopw [12, 13] (fun O K w' => ∃ (k : Nat) (A2 : Option Addr) (m2 c2 : Nat), K = .int .i64 (k : Int) ∧ k ≤ sn ∧ O = .slice A2 m2 c2 ∧ m2 ≤ 514 ∧ Z.Own .i64 w' w9.heap.size 2 A2 m2 c2 (fun q => bal t (P k q)) ∧ Below w9.heap.size w9 w') (fun _ K _ => sn - (intOf K).toNat)
        case atStart => exact ⟨0, _, _, _, rfl, Nat.zero_le _, rfl, hmo, HOUT.out, HBO.out⟩
        case round =>
          clear HOUT HBO
          obtain ⟨k, A2, m2, c2, rfl, hk, rfl, hm2, hown2, hbl2⟩ := hrel
          have HOWN2 := Lib.hid hown2
          have HBL2 := Lib.hid hbl2
          have q4k := HQW.out _ hbl2
          clear hown2 hbl2
          by_cases hks : k < sn
          · have e5 : decide ((k : Int) < (sn : Int)) = true := decide_eq_true (by omega)
            go_wp2
            go_loopw [12, 14] (fun O J w' => ∃ (j : Nat) (A3 : Option Addr) (m3 c3 : Nat), J = .int .i64 (j : Int) ∧ j ≤ l k ∧ O = .slice A3 m3 c3 ∧ m3 ≤ 514 ∧ Z.Own .i64 w' w9.heap.size 2 A3 m3 c3 (fun q => bal t (PJ k j q)) ∧ Below w9.heap.size w9 w') (fun _ J _ => l k - (intOf J).toNat)
            case atStart => exact ⟨0, _, _, _, rfl, Nat.zero_le _, rfl, hm2, HOWN2.out.congr (fun q => by rw [HJ0.out]), HBL2.out⟩
            case round =>
              clear HOWN2 HBL2 q4k
              obtain ⟨j, A3, m3, c3, rfl, hj, rfl, hm3, hown3, hbl3⟩ := hrel
              have HOWN3 := Lib.hid hown3
              have HBL3 := Lib.hid hbl3
              have q9j := (hbl3.cell (p := ⟨g9, k, none⟩) hg9).trans (HC9.out k (by omega))
              clear hown3 hbl3
              have i5 : 0 ≤ (k : Int) := by omega
              have i6 : (k : Int) < (i : Int) + 1 := by omega
              by_cases hjl : j < l k
              · have e6 : decide ((j : Int) < ((l k : Nat) : Int)) = true := decide_eq_true (by omega)
                have hlk := HF9.out.le k (by omega)
                go_wp2
                go_loopw [12] (fun O w' => ∃ (A4 : Option Addr) (m4 c4 : Nat), O = .slice A4 m4 c4 ∧ m4 ≤ 514 ∧ Z.Own .i64 w' w9.heap.size 2 A4 m4 c4 (fun q => bal t (PJ k j q)) ∧ Below w9.heap.size w9 w') (fun O _ => j + 1 - lnO O)
                case atStart => exact ⟨_, _, _, rfl, hm3, HOWN3.out, HBL3.out⟩
                case round =>
                  clear HOWN3 HBL3 q9j
                  obtain ⟨A4, m4, c4, rfl, hm4, hown4, hbl4⟩ := hrel
                  have HOWN4 := Lib.hid hown4
                  have HBL4 := Lib.hid hbl4
                  have hz4 := hbl4.size
                  have q4j := HQW.out _ hbl4
                  have q9j := (hbl4.cell (p := ⟨g9, k, none⟩) hg9).trans (HC9.out k (by omega))
                  clear hown4 hbl4
                  by_cases hmj : m4 ≤ j
                  · have e7 : decide ((m4 : Int) ≤ (j : Int)) = true := decide_eq_true (by omega)
                    have HZ : Hid (∀ u, bal t (PJ k j (m4 + u)) = Z.oneF 0 u) := Lib.hid fun u => by
                      rw [show bal t (PJ k j (m4 + u)) = 0 from HOWN4.out.1 (m4 + u) (by omega)]
                      unfold Z.oneF
                      rw [ite_self]
                    clear q4j q9j
                    go_wp2_with (at_builtin; refine Z.wpl_append rfl _ _ _ rfl e64s' rfl (HOWN4.out.alloc _) rfl (Z.sq_one (x := 0) (lo := 0) rfl (Nat.zero_le _) (Nat.lt_succ_self _)) (fun q => bal t (PJ k j q)) (fun _ _ => rfl) HZ.out (by unfold maxLen; omega) (by omega) (by simp; omega) ?_; intro A5 c5 w5 hown5 hg5 hb5 hat5)
                    go_roundw
                    case rel => exact ⟨A5, _, c5, rfl, by omega, hown5, HBL4.out.trans (((Below.refl _ _).alloc hz4 _).trans hb5)⟩
                    case measure => simp only [lnO]; omega
                  · have e7 : decide ((m4 : Int) ≤ (j : Int)) = false := decide_eq_false (by omega)
                    rcases HOWN4.out.cases with ⟨_, h0, _⟩ | ⟨g4, rfl, hg4b, hg4, hmc4, _, hc4, hf4⟩
                    · omega
                    have k3 := hc4 j (by omega)
                    have f3 := hf4 j
                    simp only [Z.ku] at k3
                    obtain ⟨g2, off2, hC, _, hg2, hcc⟩ := (HQ9.out.below HBL4.out (by omega)).2 (by omega)
                    have k5 := hcc k hks
                    obtain ⟨gk, offk, hGk, _, hgk, hcr⟩ := (((HF9.out.own k (by omega)).sq (Nat.zero_le _)).below HBL4.out (Nat.le_refl _)).2 (by omega)
                    have k6 := hcr j hjl
                    rw [hC] at q4j
                    rw [hGk] at q9j
                    have b1 := HCB.out k hks
                    have b2 := fR_bound hodd htm s (mark nd0 0) k j
                    have b3 := bal_bound hodd (PJ k j j)
                    obtain ⟨x, hx⟩ : ∃ x, cs k = x := ⟨_, rfl⟩
                    obtain ⟨y, hy⟩ : ∃ y, fR t s (mark nd0 0) k j = y := ⟨_, rfl⟩
                    obtain ⟨u, hu⟩ : ∃ u, bal t (PJ k j j) = u := ⟨_, rfl⟩
                    have HCG := Lib.hid (fR_cg (t := t) (s := s) (HCN2.out k hks) j)
                    rw [hx] at k5 b1
                    rw [hy] at k6 b2
                    rw [hu] at k3 b3
                    have c1 := mul_b (h := 1073741823) (by omega) (by omega) b1 b2
                    obtain ⟨z, hz⟩ : ∃ z, x * y = z := ⟨_, rfl⟩
                    rw [hz] at c1
                    have w1' : wrap64 (x * y) = z := by rw [hz]; exact wrap64_eq (by omega) (by omega)
                    have w2' : wrap64 (u + z) = u + z := wrap64_eq (by omega) (by omega)
                    have HNEW : Hid (bal t (u + z) = bal t (PJ k (j + 1) j)) := Lib.hid (bal_congr (by
                      rw [HJH.out, ← hu, ← hz, ← hx, ← hy]
                      exact (bal_cg t _).add HCG.out))
                    have HBA := Lib.hid (fun W : World => rbal8_any (u + z) t W ht3 htm hodd)
                    have i7 : 0 ≤ (j : Int) := by omega
                    have i8 : (j : Int) < ((l k : Nat) : Int) := by omega
                    have i9 : (j : Int) < (m4 : Int) := by omega
                    have i10 : (k : Int) < (sn : Int) := by omega
                    clear hc4 hf4 hcc hcr hx hy hu hz hC hGk
                    go_wp2
                    refine wp_region_quiet_tail 24 (by kernel_rfl) (by kernel_rfl) ?_
                    simp only [List.take_succ_cons, List.take_zero, List.drop_succ_cons, List.drop_zero]
                    repeat (go_big_quiet_step ((exact (HBA.out _).mono fun e w' hh => ⟨hh.1, _, hh.2.symm⟩)))
                    refine wpQuiet_nil ?_
                    rintro _ ⟨d2, rfl⟩
                    go_wp2
                    all_goals go_roundw
                    case rel =>
                      refine ⟨j + 1, _, m4, c4, by go_num, hjl, rfl, hm4, (ZOwn.set (w := wr.drewN d2) HOWN4.out (show j < m4 by omega) _).congr fun q => ?_, (below_drewN HBL4.out d2).setCell (p := ⟨g4, j, none⟩) hg4b _⟩
                      by_cases hq : q = j
                      · rw [if_pos hq, hq, HNEW.out]
                      · rw [if_neg hq, HJO.out _ _ _ hq]
                    case measure => simp only [intOf]; omega
              · obtain rfl : l k = j := by omega
                have e6 : decide (((l k : Nat) : Int) < ((l k : Nat) : Int)) = false := decide_eq_false (by omega)
                go_wp2
                go_roundw
                case rel => exact ⟨k + 1, A3, m3, c3, by go_num, hks, rfl, hm3, HOWN3.out.congr (fun q => HJA.out k (HCN2.out k hks) (l k) (HF9.out.own k (by omega)).1 q), HBL3.out⟩
                case measure => simp only [intOf]; omega
          · obtain rfl : sn = k := by omega
            have e5 : decide ((sn : Int) < (sn : Int)) = false := decide_eq_false (by omega)
            go_wp2
            go_loopw [12] (fun O w' => ∃ (A5 : Option Addr) (m5 c5 : Nat), O = .slice A5 m5 c5 ∧ m5 ≤ 514 ∧ Z.Own .i64 w' w9.heap.size 2 A5 m5 c5 (fun q => bal t (plD s (i + 1) q)) ∧ Below w9.heap.size w9 w') (fun O _ => lnO O)
            case atStart => exact ⟨_, _, _, rfl, hm2, HOWN2.out.congr (fun q => by rw [HPA.out]), HBL2.out⟩
            case round =>
              clear HOWN2 HBL2 q4k
              obtain ⟨A5, m5, c5, rfl, hm5, hown5, hbl5⟩ := hrel
              have HOWN5 := Lib.hid hown5
              have HBL5 := Lib.hid hbl5
              have hz5 := hbl5.size
              have HFA := Lib.hid ((HF9.out.below hbl5).below ((Below.refl _ wr).alloc (Nat.le_refl _) (.cells #[.slice A5 m5 c5] 23)))
              have HOA : Hid (Z.Own .i64 (wr.alloc (.cells #[.slice A5 m5 c5] 23)) w1.heap.size 2 A5 m5 c5 (fR t s (mark nd0 0) (i + 1))) := Lib.hid (((hown5.base (show w1.heap.size ≤ w9.heap.size by omega)).alloc _).congr fun q => (fR_yes HND2.out q).symm)
              have HBB : Hid (Below w1.heap.size w1 (wr.alloc (.cells #[.slice A5 m5 c5] 23))) := Lib.hid ((HB9.out.trans (hbl5.mono (by omega))).alloc (by omega) _)
              clear hown5 hbl5
              by_cases hm0 : m5 = 0
              · subst hm0
                go_wp2_with (at_builtin; refine wpl_append1 (v := .slice (some ⟨g9, 0, none⟩) (i + 1) cO) (z := .slice none 0 0) (bytes := 24) rfl _ _ _ rfl Try.underlying72 (by kernel_rfl) (by kernel_rfl) rfl HFA.out.row (u := .slice A5 0 c5) rfl (by rw [World.cell?_alloc_new]; rfl) rfl (by unfold maxLen; omega) (by omega) (by simp; omega) ?_; intro O' w' hr' hg')
                have hfm' := HFA.out.push HOA.out (fun h => absurd h (by omega)) (by omega) hr' hg'
                have hbl' := HBB.out.trans ((Below.refl _ _).grown hg' (by simp; omega) (fun q hq => by simp only [Value.ownBlock, Option.some.injEq] at hq; subst hq; exact hg9b))
                go_roundw
                case rel => exact ⟨i + 1, _, _, _, by go_num, hi, hfm', hbl'⟩
                case measure => simp only [intOf]; omega
              · rcases HOWN5.out.cases with ⟨_, h0, _⟩ | ⟨g5, rfl, hg5b, hg5, hmc5, _, hc5, hf5⟩
                · omega
                have d1 : decide ((m5 : Int) > 0) = true := decide_eq_true (by omega)
                have d2 : decide (0 < m5) = true := decide_eq_true (by omega)
                have k5 := hc5 (m5 - 1) (by omega)
                simp only [Z.ku] at k5
                have i5 : 0 ≤ (m5 : Int) - 1 := by omega
                have i6 : (m5 : Int) - 1 < (m5 : Int) := by omega
                have i7 : ((m5 : Int) - 1).toNat = m5 - 1 := by omega
                have i8 : (m5 : Int) - 1 ≤ (c5 : Int) := by omega
                have HDG := Lib.hid (deg_le (t := t) (m := m5 - 1) HOK.out HD8.out HNO.out (show i + 1 ≤ n by omega) HND2.out)
                clear hc5 hf5
                by_cases hv : bal t (plD s (i + 1) (m5 - 1)) = 0
                · rw [hv] at k5
                  have HPOP := Lib.hid (ZOwn.pop' HOWN5.out (by omega) hv)
                  clear hv
                  go_wp2
                  go_roundw
                  case rel => exact ⟨_, m5 - 1, c5, rfl, by omega, HPOP.out, HBL5.out⟩
                  case measure => simp only [lnO]; omega
                · have hdg := HDG.out hv
                  have d4 : (bal t (plD s (i + 1) (m5 - 1)) == 0) = false := by rw [beq_eq_false_iff_ne]; exact hv
                  have d5 : decide ((m5 : Int) - 1 > 256) = false := decide_eq_false (by omega)
                  have d6 : decide (256 < (m5 : Int) - 1) = false := decide_eq_false (by omega)
                  have HV : Hid (fR t s (mark nd0 0) (i + 1) (m5 - 1) ≠ 0) := Lib.hid (by rw [fR_yes HND2.out]; exact hv)
                  obtain ⟨v, hvv⟩ : ∃ v, bal t (plD s (i + 1) (m5 - 1)) = v := ⟨_, rfl⟩
                  rw [hvv] at k5 d4
                  clear hv hvv
                  go_wp2_with (at_builtin; refine wpl_append1 (v := .slice (some ⟨g9, 0, none⟩) (i + 1) cO) (z := .slice none 0 0) (bytes := 24) rfl _ _ _ rfl Try.underlying72 (by kernel_rfl) (by kernel_rfl) rfl HFA.out.row (u := .slice (some ⟨g5, 0, none⟩) m5 c5) rfl (by rw [World.cell?_alloc_new]; rfl) rfl (by unfold maxLen; omega) (by omega) (by simp; omega) ?_; intro O' w' hr' hg')
                  have hfm' := HFA.out.push HOA.out (fun _ => HV.out) (by omega) hr' hg'
                  have hbl' := HBB.out.trans ((Below.refl _ _).grown hg' (by simp; omega) (fun q hq => by simp only [Value.ownBlock, Option.some.injEq] at hq; subst hq; exact hg9b))
                  go_roundw
                  case rel => exact ⟨i + 1, _, _, _, by go_num, hi, hfm', hbl'⟩
                  case measure => simp only [intOf]; omega
end Go.Proofs.Ytmidpholmgmdpaa
