/- The contract of the table's cyclic, with the forward powers of the root. -/
import Derived.Test.YtbajapjaejpcjaaTab
import Derived.BigRegion
namespace Go.Proofs.Ytbajapjaejpcjaa
open Go.RowKit
set_option linter.unusedVariables false

theorem cell_other {w : World} {a p : Addr} {v x : Value} (h : w.cell? p = some x) (hne : p.block ≠ a.block) : (w.setCell a v).cell? p = some x := (World.cell?_of_block (Below.heap_setCell w a v p.block hne)).trans h
theorem Tb.below {W W' : World} {b n q s B : Nat} {P : Nat → Nat} (h : Tb W b n q P s) (hb : Below B W W') (hB : b < B) : Tb W' b n q P s :=
  ⟨(hb.cell (p := ⟨b, 0, none⟩) hB).trans h.cN, (hb.cell (p := ⟨b, 1, none⟩) hB).trans h.cQ, fun i hi => (hb.cell (p := ⟨b, 2 + i, none⟩) hB).trans (h.cP i hi), (hb.cell (p := ⟨b, 66, none⟩) hB).trans h.cS, Nat.lt_of_lt_of_le h.lt hb.size⟩
theorem row_next {f : Nat → Nat} {i x k : Nat} (hx : f i = x) : (if k = i then x else if k < i then f k else 0) = if k < i + 1 then f k else 0 := by
  by_cases h : k = i
  · subst h; rw [if_pos rfl, if_pos (Nat.lt_succ_self _), hx]
  · rw [if_neg h]
    by_cases h2 : k < i
    · rw [if_pos h2, if_pos (by omega)]
    · rw [if_neg h2, if_neg (by omega)]
/-- a function, 0 from m on -/
def trF (m : Nat) (f : Nat → Nat) : Nat → Nat := fun j => if j < m then f j else 0
theorem trF_cy {q ω st m : Nat} {f g : Nat → Nat} (h : ∀ i, i < m → f i = g i) : trF m (cyF q ω st m f) = trF m (cyF q ω st m g) := by
  have : cyF q ω st m f = cyF q ω st m g := funext fun j => by
    unfold cyF
    rw [sumN_congr m fun i hi => by rw [h i hi]]
  rw [this]
/-- the elements from 0 and from h on, i of each -/
def twF (h i : Nat) (f : Nat → Nat) : Nat → Nat := fun k => if k < i ∨ (h ≤ k ∧ k < h + i) then f k else 0
theorem twF_zero (h : Nat) (f : Nat → Nat) (k : Nat) : twF h 0 f k = 0 := if_neg (by omega)
theorem twF_next {h i v1 v2 k : Nat} {f : Nat → Nat} (h1 : f i = v1) (h2 : f (i + h) = v2) : (if k = i + h then v2 else if k = i then v1 else twF h i f k) = twF h (i + 1) f k := by
  by_cases e2 : k = i + h
  · rw [if_pos e2, e2]
    unfold twF
    rw [if_pos (by omega), h2]
  · rw [if_neg e2]
    by_cases e1 : k = i
    · rw [if_pos e1, e1]
      unfold twF
      rw [if_pos (by omega), h1]
    · rw [if_neg e1]
      unfold twF
      by_cases e3 : k < i ∨ (h ≤ k ∧ k < h + i)
      · rw [if_pos e3, if_pos (by omega)]
      · rw [if_neg e3, if_neg (by omega)]
/-- what cyclic leaves: of one element the list itself, otherwise a new one -/
def RetCy (w : World) (A : Option Addr) (m c : Nat) (F : Nat → Nat) (e : Ending) (w' : World) : Prop :=
  ∃ A' c', e = .returned (.slice A' m c') ∧ ((m = 1 ∧ A' = A ∧ c' = c) ∨ (∃ b', A' = some ⟨b', 0, none⟩ ∧ w.heap.size ≤ b' ∧ c' = m ∧ w'.rowIs b' 39 m (ku .u64 F))) ∧ Sq .u64 w' 0 w'.heap.size A' m (trF m F) ∧ Below w.heap.size w w'

set_option maxRecDepth 100000 in
set_option maxHeartbeats 4000000 in
theorem tcycP_any (b n q s ω : Nat) (P : Nat → Nat) (hn : 1 ≤ n) (hn2 : n ≤ 32) (hq : 2 ≤ q) (hq2 : q ≤ 2147483647) (hP : ∀ i, P i ≤ 4294967295) (hω : ∀ k, k ≤ 64 → P (k % (2 * n)) = ω ^ k % q) (hneg : Cg q ((ω : Int) ^ n) (-1)) :
    ∀ (j m step : Nat), m = 2 ^ j → step * m = n → ∀ (A : Option Addr) (c lo hi : Nat) (a : Nat → Nat) (w : World), Tb w b n q P s → Sq .u64 w lo hi A m a → (∀ i, a i < q) → hi ≤ w.heap.size →
    Calls Try.prog 28 #[.pointer (some ⟨b, 0, none⟩), .slice A m c, .int .i64 (step : Int), .func (.func 26) #[.pointer (some ⟨b, 0, none⟩)] #[]] w (RetCy w A m c (cyF q ω step m a)) := by
  intro j
  induction j with
  | zero =>
    intro m step hm hst A c lo hi a w ht ha haq hhi
    obtain rfl : m = 1 := hm
    have HA := Lib.hid ha
    have HAQ := Lib.hid haq
    clear ht ha haq hω hneg hst
    go_enter Try.func28, Try.ntmps28
    go_wp2
    go_ret
    refine ⟨A, c, rfl, .inl ⟨rfl, rfl, rfl⟩, ?_, Below.refl _ _⟩
    refine ((HA.out.wide (Nat.zero_le _) hhi).congr fun i => ?_)
    unfold trF
    split
    · rename_i h0
      obtain rfl : i = 0 := by omega
      exact (cyF_one (HAQ.out 0)).symm
    · exact HA.out.1 i (by omega)
  | succ j ih =>
    intro m step hm hst A c lo hi a w ht ha haq hhi
    obtain ⟨h, hh⟩ : ∃ h, 2 ^ j = h := ⟨_, rfl⟩
    have hm2 : m = 2 * h := by rw [hm, Nat.pow_succ, hh, Nat.mul_comm]
    have hh0 : 1 ≤ h := by rw [← hh]; exact Nat.two_pow_pos j
    have hst2 : 2 * step * h = n := by rw [← hst, hm2]; grind
    have hsn : step ≤ 16 := by
      have : 2 * step * 1 ≤ 2 * step * h := Nat.mul_le_mul_left _ hh0
      omega
    have hmn : m ≤ 32 := by
      have h1 : 0 < step := Nat.pos_of_ne_zero fun h => by rw [h, Nat.zero_mul] at hst; omega
      have : 1 * m ≤ step * m := Nat.mul_le_mul_right _ h1
      omega
    have IH := Lib.hid (ih h (2 * step) hh.symm hst2)
    have HNEG : Hid (Cg q ((ω : Int) ^ (step * (2 * h))) (-1)) := Lib.hid (by rw [← hm2, hst]; exact hneg)
    have HW := Lib.hid hω
    have HA := Lib.hid ha
    have HAQ := Lib.hid haq
    have HT := Lib.hid ht
    have HPB := Lib.hid hP
    have HM := Lib.hid hm2
    have HST := Lib.hid hst2
    have hdi : (m : Int) / 2 = (h : Int) := by omega
    have hdit : (m : Int).tdiv 2 = (h : Int) := by rw [Int.tdiv_eq_ediv_of_nonneg (by omega), hdi]
    have q1 : ((m : Int) == 1) = false := by simp; omega
    have hhm : h ≤ 16 := by omega
    clear ih hω hneg hm hst hh hm2 hst2 ht ha haq hP
    go_enter Try.func28, Try.ntmps28
    have hr0 := World.rowIs_made w (.int .u64 0) h 39
    have hr1 := World.rowIs_made (w.alloc (.cells (madeCells #[.int .u64 0] h) 39)) (.int .u64 0) h 39
    have hr0 := hr0.alloc (.cells (madeCells #[.int .u64 0] h) 39)
    rw [World.size_alloc] at hr1
    have hb3 : Below w.heap.size w (((w.alloc (.cells (madeCells #[.int .u64 0] h) 39)).alloc (.cells (madeCells #[.int .u64 0] h) 39)).drew) := (((Below.refl _ w).alloc (Nat.le_refl _) _).alloc (by rw [World.size_alloc]; omega) _).drew
    obtain ⟨w3, hw3⟩ : ∃ w3, w3 = (((w.alloc (.cells (madeCells #[.int .u64 0] h) 39)).alloc (.cells (madeCells #[.int .u64 0] h) 39)).drew) := ⟨_, rfl⟩
    have hr0 : w3.rowIs w.heap.size 39 h (ku .u64 fun _ => 0) := by rw [hw3]; exact hr0.drew
    have hr1 : w3.rowIs (w.heap.size + 1) 39 h (ku .u64 fun _ => 0) := by rw [hw3]; exact hr1.drew
    rw [← hw3] at hb3
    have HR01 := Lib.hid (And.intro hr0 (And.intro hr1 hb3))
    have HW3 := Lib.hid hw3
    clear hr0 hr1 hb3 hw3
    have mk := run_make_row' (P := Try.prog) 52 39 (.int .u64 0) 8 Try.underlying52 (by kernel_rfl) rfl .i64 .i64 h (by omega) (by omega)
    go_wp2
    go_region
    · go_wp2
      rw [← HW3.out]
      obtain ⟨hr0, hr1, hb3⟩ := HR01.out
      clear HR01 HW3
      generalize hbo : w.heap.size + 1 = bo at hr1 ⊢
      generalize hbe : w.heap.size = be at hr0 ⊢
      have hre := hr0
      have hro := hr1
      have hne : be ≠ bo := by omega
      have hbeg : w.heap.size ≤ be := by omega
      have hbog : w.heap.size ≤ bo := by omega
      clear hr0 hr1 hbe hbo

      have RE := Lib.hid hre
      have RO := Lib.hid hro
      clear hre hro
      go_loopw [29] (fun I wr => ∃ i : Nat, I = .int .i64 (i : Int) ∧ i ≤ h ∧ wr.rowIs be 39 h (ku .u64 fun k => if k < i then a (2 * k) else 0) ∧ wr.rowIs bo 39 h (ku .u64 fun k => if k < i then a (2 * k + 1) else 0) ∧ Below w.heap.size w wr) (fun I _ => h - (intOf I).toNat)
      case atStart => exact ⟨0, rfl, Nat.zero_le _, RE.out.congr fun k _ => rfl, RO.out.congr fun k _ => rfl, hb3⟩
      case round =>
        clear hb3 RE RO
        obtain ⟨i, rfl, hih, hre, hro, hbl⟩ := hrel
        by_cases hin : i < h
        · obtain ⟨g, off, hAe, _, hg, hcell⟩ := HA.out.2 (by omega)
          have k1 := (hbl.cell (p := ⟨g, off + 2 * i, none⟩) (by show g < _; omega)).trans (hcell (2 * i) (by omega))
          have k2 := (hbl.cell (p := ⟨g, off + (2 * i + 1), none⟩) (by show g < _; omega)).trans (hcell (2 * i + 1) (by omega))
          have hx1 := HAQ.out (2 * i)
          have hx2 := HAQ.out (2 * i + 1)
          obtain ⟨x1, e1⟩ : ∃ x, a (2 * i) = x := ⟨_, rfl⟩
          obtain ⟨x2, e2⟩ : ∃ x, a (2 * i + 1) = x := ⟨_, rfl⟩
          rw [e1] at k1 hx1
          rw [e2] at k2 hx2
          have k3 := hre.cell hin
          have k4 := hro.cell hin
          simp only [ku] at k3 k4
          rw [if_neg (by omega)] at k3 k4
          have f3 := hre.frozen i
          have f4 := hro.frozen i
          have t1 : (2 * (i : Int)).toNat = 2 * i := by omega
          have t2 : (2 * (i : Int) + 1).toNat = 2 * i + 1 := by omega
          have HE1 := Lib.hid e1
          have HE2 := Lib.hid e2
          have HRE := Lib.hid hre
          have HRO := Lib.hid hro
          rw [hAe]
          clear e1 e2 hre hro hcell
          go_wp2
          go_region
          all_goals
            go_wp2
            go_roundw
            case rel =>
              refine ⟨i + 1, by go_num, hin, ?_, ?_, ?_⟩
              · first
                  | exact ((rowIs_set_ku HRE.out i x1).setOther hne _).drew.congr fun k _ => by simp only [ku]; rw [row_next (f := fun k => a (2 * k)) HE1.out]
                  | exact (rowIs_set_ku (HRE.out.setOther hne _) i x1).drew.congr fun k _ => by simp only [ku]; rw [row_next (f := fun k => a (2 * k)) HE1.out]
              · first
                  | exact (rowIs_set_ku (HRO.out.setOther hne.symm _) i x2).drew.congr fun k _ => by simp only [ku]; rw [row_next (f := fun k => a (2 * k + 1)) HE2.out]
                  | exact ((rowIs_set_ku HRO.out i x2).setOther hne.symm _).drew.congr fun k _ => by simp only [ku]; rw [row_next (f := fun k => a (2 * k + 1)) HE2.out]
              · first
                  | exact ((hbl.setCell (p := ⟨be, i, none⟩) hbeg _).setCell (p := ⟨bo, i, none⟩) hbog _).drew
                  | exact ((hbl.setCell (p := ⟨bo, i, none⟩) hbog _).setCell (p := ⟨be, i, none⟩) hbeg _).drew
            case measure => simp only [intOf]; omega
        · obtain rfl : h = i := by omega
          obtain ⟨w4, hw4⟩ : ∃ w4, w4 = wr := ⟨_, rfl⟩
          subst hw4
          have hT4 := HT.out.below hbl HT.out.lt
          have hz4 := hbl.size
          have hsE : Sq .u64 w4 0 w4.heap.size (some ⟨be, 0, none⟩) h (fun k => if k < h then a (2 * k) else 0) := Sq.of_row hre (Nat.le_refl _) (Nat.zero_le _) hre.lt (fun k hk => if_neg (by omega)) fun k hk => rfl
          have HC1 := Lib.hid (IH.out (some ⟨be, 0, none⟩) h 0 w4.heap.size _ w4 hT4 hsE (fun k => by split <;> first | exact HAQ.out _ | exact (by omega)) (Nat.le_refl _))
          have HRO := Lib.hid hro
          clear hre hro hsE
          go_wp2_with fail
          refine HC1.out.mono ?_
          rintro e w5 ⟨A1, c1, rfl, _, hs1, hb5⟩
          have hz5 := hb5.size
          have hro5 := rowIs_below HRO.out hb5 HRO.out.lt
          have hsO : Sq .u64 w5 0 w5.heap.size (some ⟨bo, 0, none⟩) h (fun k => if k < h then a (2 * k + 1) else 0) := Sq.of_row hro5 (Nat.le_refl _) (Nat.zero_le _) hro5.lt (fun k hk => if_neg (by omega)) fun k hk => rfl
          have HC2 := Lib.hid (IH.out (some ⟨bo, 0, none⟩) h 0 w5.heap.size _ w5 (hT4.below hb5 hT4.lt) hsO (fun k => by split <;> first | exact HAQ.out _ | exact (by omega)) (Nat.le_refl _))
          have HS1 := Lib.hid hs1
          clear hro5 hsO hs1
          go_wp2_with fail
          refine HC2.out.mono ?_
          rintro e w6 ⟨A2, c2, rfl, _, hs2, hb6⟩
          have hz6 := hb6.size
          have hb06 := hbl.trans ((hb5.trans (hb6.mono hz5)).mono hz4)
          have hE := HS1.out.below hb6 (Nat.le_refl _)
          rw [trF_cy fun k hk => if_pos hk] at hE
          rw [trF_cy fun k hk => if_pos hk] at hs2
          have HE := Lib.hid hE
          have HO := Lib.hid hs2
          have HT6 := Lib.hid ((hT4.below hb5 hT4.lt).below hb6 (by have := hT4.lt; omega))
          have hz06 := hb06.size
          clear hE hs2 HS1 hT4
          have e64 : ElemOf Try.prog 52 39 .u64 8 := ⟨Try.underlying52, by kernel_rfl⟩
          go_wp2_with (at_make; refine wpl_make rfl _ _ _ rfl e64 .i64 .i64 _ _ m rfl rfl rfl rfl (by omega) (by unfold maxLen; omega) ?_; intro w7 hr7 hb7 hs7)
          have HR7 := Lib.hid hr7
          clear hr7 mk
          go_loopw [66] (fun I wr => ∃ i : Nat, I = .int .i64 (i : Int) ∧ i ≤ h ∧ wr.rowIs w6.heap.size 39 m (ku .u64 (twF h i (cyF q ω step m a))) ∧ Below w6.heap.size w6 wr) (fun I _ => h - (intOf I).toNat)
          case atStart => exact ⟨0, rfl, Nat.zero_le _, HR7.out.congr fun k _ => by simp only [ku]; rw [twF_zero], hb7⟩
          case round =>
            clear hb7 HR7 hs7
            obtain ⟨i, rfl, hih, hrow, hb6r⟩ := hrel
            by_cases hin : i < h
            · obtain ⟨g1, o1, hA1, _, hg1, hcell1⟩ := HE.out.2 (by omega)
              obtain ⟨g2, o2, hA2, _, hg2, hcell2⟩ := HO.out.2 (by omega)
              have k1 := (hb6r.cell (p := ⟨g1, o1 + i, none⟩) (by show g1 < _; omega)).trans (hcell1 i hin)
              have k2 := (hb6r.cell (p := ⟨g2, o2 + i, none⟩) (by show g2 < _; omega)).trans (hcell2 i hin)
              simp only [trF, if_pos hin] at k1 k2
              obtain ⟨ev, hev⟩ : ∃ ev, cyF q ω (2 * step) h (fun k => a (2 * k)) i = ev := ⟨_, rfl⟩
              obtain ⟨od, hod⟩ : ∃ od, cyF q ω (2 * step) h (fun k => a (2 * k + 1)) i = od := ⟨_, rfl⟩
              have hevq : ev < q := by rw [← hev]; exact cyF_lt (by omega) i
              have hodq : od < q := by rw [← hod]; exact cyF_lt (by omega) i
              rw [hev] at k1
              rw [hod] at k2
              have hTr := HT6.out.below hb6r HT6.out.lt
              have k3 := hTr.cQ
              -- the power
              obtain ⟨kk, hkk⟩ : ∃ kk, 2 * step * i = kk := ⟨_, rfl⟩
              have hkb : kk ≤ 32 := by
                have : 2 * step * i ≤ 2 * step * h := Nat.mul_le_mul_left _ hih
                have := HST.out
                omega
              have hki : 2 * (step : Int) * (i : Int) = (kk : Int) := by rw [← hkk]; simp
              have hcall := fun (V : World) (hV : Tb V b n q P s) => tpower_any b n q kk s P V hV hn hn2 (by omega) HPB.out
              rw [HW.out kk (by omega)] at hcall
              obtain ⟨pw, hpw⟩ : ∃ pw, ω ^ kk % q = pw := ⟨_, rfl⟩
              have hpq : pw < q := by rw [← hpw]; exact Nat.mod_lt _ (by omega)
              rw [hpw] at hcall
              have HCALL := Lib.hid (fun d => hcall (wr.drewN d) ⟨hTr.cN, hTr.cQ, hTr.cP, hTr.cS, hTr.lt⟩)
              obtain ⟨mm, hmm⟩ : ∃ mm, od * pw = mm := ⟨_, rfl⟩
              have hmi : (od : Int) * (pw : Int) = (mm : Int) := by rw [← hmm]; simp
              have hmb : mm ≤ 4611686009837453316 := by rw [← hmm]; exact mul_lt_of hodq hpq hq2
              obtain ⟨xx, hxx⟩ : ∃ xx, mm % q = xx := ⟨_, rfl⟩
              have hxi : (mm : Int) % (q : Int) = (xx : Int) := by rw [← hxx]; simp
              have hxit : (mm : Int).tmod (q : Int) = (xx : Int) := by rw [Int.tmod_eq_emod_of_nonneg (by omega), hxi]
              have hxq : xx < q := by rw [← hxx]; exact Nat.mod_lt _ (by omega)
              have hX : cyX q ω step h a i = xx := by
                unfold cyX
                rw [hod, hkk, hpw, hmm, hxx]
              have HX := Lib.hid hX
              have HEV := Lib.hid hev
              have HROW := Lib.hid hrow
              have HTR := Lib.hid hTr
              have hq0 : ¬ q = 0 := by omega
              rw [hA1, hA2]
              clear hev hod hkk hpw hmm hxx hX hcall hcell1 hcell2 hrow hTr
              go_wp2
              go_quiet ((exact (HCALL.out _).mono fun e w' hh => ⟨hh.1, by obtain ⟨_, d, hd⟩ := hh; exact ⟨_, hd.trans (World.drewN_drewN _ _ _)⟩⟩))
              go_wp2
              have hb8 : Below w6.heap.size w6 (wr.drewN nq) := below_drewN hb6r nq
              have hrow8 : (wr.drewN nq).rowIs w6.heap.size 39 m (ku .u64 (twF h i (cyF q ω step m a))) := HROW.out
              have k1 : (wr.drewN nq).cell? ⟨g1, o1 + i, none⟩ = some (.int .u64 (ev : Int)) := k1
              have k3 : (wr.drewN nq).cell? ⟨b, 1, none⟩ = some (.int .u64 (q : Int)) := k3
              clear HROW HCALL HTR hki
              generalize wr.drewN nq = w8 at hb8 hrow8 k1 k3 ⊢
              have hmh : h + h ≤ m := by have := HM.out; omega
              have k5 := hrow8.cell (show i < m by omega)
              simp only [ku, twF] at k5
              rw [if_neg (by omega)] at k5
              have f5 := hrow8.frozen i
              have hz8 := hb8.size
              obtain ⟨v1, hv1⟩ : ∃ v1, (ev + xx) % q = v1 := ⟨_, rfl⟩
              have hv1i : ((ev : Int) + (xx : Int)) % (q : Int) = (v1 : Int) := by rw [← hv1]; simp
              have hv1it : ((ev : Int) + (xx : Int)).tmod (q : Int) = (v1 : Int) := by rw [Int.tmod_eq_emod_of_nonneg (by omega), hv1i]
              have hv1q : v1 < q := by rw [← hv1]; exact Nat.mod_lt _ (by omega)
              have HV1 := Lib.hid hv1
              have HR8 := Lib.hid hrow8
              clear hv1 hrow8
              go_region
              go_wp2
              have hr9 := (rowIs_set_ku HR8.out i v1).drew
              have hb9 := (hb8.setCell (p := ⟨w6.heap.size, i, none⟩) (Nat.le_refl _) (.int .u64 (v1 : Int))).drew
              have k1' := (hb8.trans (Below.refl _ _) |> fun _ => k1)
              have k19 : (w8.setCell ⟨w6.heap.size, i, none⟩ (.int .u64 (v1 : Int))).drew.cell? ⟨g1, o1 + i, none⟩ = some (.int .u64 (ev : Int)) := cell_other k1 (show g1 ≠ w6.heap.size by omega)
              have k39 : (w8.setCell ⟨w6.heap.size, i, none⟩ (.int .u64 (v1 : Int))).drew.cell? ⟨b, 1, none⟩ = some (.int .u64 (q : Int)) := cell_other k3 (show b ≠ w6.heap.size by have := HT6.out.lt; omega)
              clear hb8 HR8 k1 k3 k5 f5 hz8 k1'
              generalize (w8.setCell ⟨w6.heap.size, i, none⟩ (.int .u64 (v1 : Int))).drew = w9 at hr9 hb9 k19 k39 ⊢
              have k6 := hr9.cell (show i + h < m by omega)
              simp only [ku, twF] at k6
              rw [if_neg (by omega), if_neg (by omega)] at k6
              have f6 := hr9.frozen (i + h)
              have t3 : ((i : Int) + (h : Int)).toNat = i + h := by omega
              obtain ⟨v2, hv2⟩ : ∃ v2, (ev + q - xx) % q = v2 := ⟨_, rfl⟩
              have hv2i : ((ev : Int) + (q : Int) - (xx : Int)) % (q : Int) = (v2 : Int) := by rw [← hv2, Int.natCast_emod, Int.ofNat_sub (by omega)]; simp
              have hv2it : ((ev : Int) + (q : Int) - (xx : Int)).tmod (q : Int) = (v2 : Int) := by rw [Int.tmod_eq_emod_of_nonneg (by omega), hv2i]
              have hv2q : v2 < q := by rw [← hv2]; exact Nat.mod_lt _ (by omega)
              have HV2 := Lib.hid hv2
              have HR9 := Lib.hid hr9
              clear hv2 hr9 hv1i hv1it
              go_region
              go_wp2
              go_roundw
              case rel =>
                refine ⟨i + 1, by go_num, hin, ((rowIs_set_ku HR9.out (i + h) v2).drew).congr fun k _ => ?_, (hb9.setCell (p := ⟨w6.heap.size, i + h, none⟩) (Nat.le_refl _) _).drew⟩
                simp only [ku]
                rw [twF_next]
                · rw [HM.out, cyF_low (by omega), HEV.out, HX.out, HV1.out]
                · rw [HM.out, cyF_high (by omega) HNEG.out, HEV.out, HX.out, HV2.out]
              case measure => simp only [intOf]; omega
            · obtain rfl : h = i := by omega
              have hrow2 : wr.rowIs w6.heap.size 39 m (ku .u64 (cyF q ω step m a)) := hrow.congr fun k hk => by
                simp only [ku, twF]
                rw [if_pos (by have := HM.out; omega)]
              have HROW := Lib.hid hrow2
              clear hrow hrow2
              go_wp2
              go_ret
              exact ⟨_, _, rfl, .inr ⟨_, rfl, by omega, rfl, HROW.out⟩, Sq.of_row HROW.out (Nat.le_refl _) (Nat.zero_le _) HROW.out.lt (fun k hk => if_neg (by omega)) fun k hk => (if_pos hk).symm, hb06.trans (hb6r.mono hz06)⟩
    · go_wp2
      rw [← HW3.out]
      obtain ⟨hr0, hr1, hb3⟩ := HR01.out
      clear HR01 HW3
      generalize hbe : w.heap.size + 1 = be at hr1 ⊢
      generalize hbo : w.heap.size = bo at hr0 ⊢
      have hre := hr1
      have hro := hr0
      have hne : be ≠ bo := by omega
      have hbeg : w.heap.size ≤ be := by omega
      have hbog : w.heap.size ≤ bo := by omega
      clear hr0 hr1 hbe hbo

      have RE := Lib.hid hre
      have RO := Lib.hid hro
      clear hre hro
      go_loopw [29] (fun I wr => ∃ i : Nat, I = .int .i64 (i : Int) ∧ i ≤ h ∧ wr.rowIs be 39 h (ku .u64 fun k => if k < i then a (2 * k) else 0) ∧ wr.rowIs bo 39 h (ku .u64 fun k => if k < i then a (2 * k + 1) else 0) ∧ Below w.heap.size w wr) (fun I _ => h - (intOf I).toNat)
      case atStart => exact ⟨0, rfl, Nat.zero_le _, RE.out.congr fun k _ => rfl, RO.out.congr fun k _ => rfl, hb3⟩
      case round =>
        clear hb3 RE RO
        obtain ⟨i, rfl, hih, hre, hro, hbl⟩ := hrel
        by_cases hin : i < h
        · obtain ⟨g, off, hAe, _, hg, hcell⟩ := HA.out.2 (by omega)
          have k1 := (hbl.cell (p := ⟨g, off + 2 * i, none⟩) (by show g < _; omega)).trans (hcell (2 * i) (by omega))
          have k2 := (hbl.cell (p := ⟨g, off + (2 * i + 1), none⟩) (by show g < _; omega)).trans (hcell (2 * i + 1) (by omega))
          have hx1 := HAQ.out (2 * i)
          have hx2 := HAQ.out (2 * i + 1)
          obtain ⟨x1, e1⟩ : ∃ x, a (2 * i) = x := ⟨_, rfl⟩
          obtain ⟨x2, e2⟩ : ∃ x, a (2 * i + 1) = x := ⟨_, rfl⟩
          rw [e1] at k1 hx1
          rw [e2] at k2 hx2
          have k3 := hre.cell hin
          have k4 := hro.cell hin
          simp only [ku] at k3 k4
          rw [if_neg (by omega)] at k3 k4
          have f3 := hre.frozen i
          have f4 := hro.frozen i
          have t1 : (2 * (i : Int)).toNat = 2 * i := by omega
          have t2 : (2 * (i : Int) + 1).toNat = 2 * i + 1 := by omega
          have HE1 := Lib.hid e1
          have HE2 := Lib.hid e2
          have HRE := Lib.hid hre
          have HRO := Lib.hid hro
          rw [hAe]
          clear e1 e2 hre hro hcell
          go_wp2
          go_region
          all_goals
            go_wp2
            go_roundw
            case rel =>
              refine ⟨i + 1, by go_num, hin, ?_, ?_, ?_⟩
              · first
                  | exact ((rowIs_set_ku HRE.out i x1).setOther hne _).drew.congr fun k _ => by simp only [ku]; rw [row_next (f := fun k => a (2 * k)) HE1.out]
                  | exact (rowIs_set_ku (HRE.out.setOther hne _) i x1).drew.congr fun k _ => by simp only [ku]; rw [row_next (f := fun k => a (2 * k)) HE1.out]
              · first
                  | exact (rowIs_set_ku (HRO.out.setOther hne.symm _) i x2).drew.congr fun k _ => by simp only [ku]; rw [row_next (f := fun k => a (2 * k + 1)) HE2.out]
                  | exact ((rowIs_set_ku HRO.out i x2).setOther hne.symm _).drew.congr fun k _ => by simp only [ku]; rw [row_next (f := fun k => a (2 * k + 1)) HE2.out]
              · first
                  | exact ((hbl.setCell (p := ⟨be, i, none⟩) hbeg _).setCell (p := ⟨bo, i, none⟩) hbog _).drew
                  | exact ((hbl.setCell (p := ⟨bo, i, none⟩) hbog _).setCell (p := ⟨be, i, none⟩) hbeg _).drew
            case measure => simp only [intOf]; omega
        · obtain rfl : h = i := by omega
          obtain ⟨w4, hw4⟩ : ∃ w4, w4 = wr := ⟨_, rfl⟩
          subst hw4
          have hT4 := HT.out.below hbl HT.out.lt
          have hz4 := hbl.size
          have hsE : Sq .u64 w4 0 w4.heap.size (some ⟨be, 0, none⟩) h (fun k => if k < h then a (2 * k) else 0) := Sq.of_row hre (Nat.le_refl _) (Nat.zero_le _) hre.lt (fun k hk => if_neg (by omega)) fun k hk => rfl
          have HC1 := Lib.hid (IH.out (some ⟨be, 0, none⟩) h 0 w4.heap.size _ w4 hT4 hsE (fun k => by split <;> first | exact HAQ.out _ | exact (by omega)) (Nat.le_refl _))
          have HRO := Lib.hid hro
          clear hre hro hsE
          go_wp2_with fail
          refine HC1.out.mono ?_
          rintro e w5 ⟨A1, c1, rfl, _, hs1, hb5⟩
          have hz5 := hb5.size
          have hro5 := rowIs_below HRO.out hb5 HRO.out.lt
          have hsO : Sq .u64 w5 0 w5.heap.size (some ⟨bo, 0, none⟩) h (fun k => if k < h then a (2 * k + 1) else 0) := Sq.of_row hro5 (Nat.le_refl _) (Nat.zero_le _) hro5.lt (fun k hk => if_neg (by omega)) fun k hk => rfl
          have HC2 := Lib.hid (IH.out (some ⟨bo, 0, none⟩) h 0 w5.heap.size _ w5 (hT4.below hb5 hT4.lt) hsO (fun k => by split <;> first | exact HAQ.out _ | exact (by omega)) (Nat.le_refl _))
          have HS1 := Lib.hid hs1
          clear hro5 hsO hs1
          go_wp2_with fail
          refine HC2.out.mono ?_
          rintro e w6 ⟨A2, c2, rfl, _, hs2, hb6⟩
          have hz6 := hb6.size
          have hb06 := hbl.trans ((hb5.trans (hb6.mono hz5)).mono hz4)
          have hE := HS1.out.below hb6 (Nat.le_refl _)
          rw [trF_cy fun k hk => if_pos hk] at hE
          rw [trF_cy fun k hk => if_pos hk] at hs2
          have HE := Lib.hid hE
          have HO := Lib.hid hs2
          have HT6 := Lib.hid ((hT4.below hb5 hT4.lt).below hb6 (by have := hT4.lt; omega))
          have hz06 := hb06.size
          clear hE hs2 HS1 hT4
          have e64 : ElemOf Try.prog 52 39 .u64 8 := ⟨Try.underlying52, by kernel_rfl⟩
          go_wp2_with (at_make; refine wpl_make rfl _ _ _ rfl e64 .i64 .i64 _ _ m rfl rfl rfl rfl (by omega) (by unfold maxLen; omega) ?_; intro w7 hr7 hb7 hs7)
          have HR7 := Lib.hid hr7
          clear hr7 mk
          go_loopw [66] (fun I wr => ∃ i : Nat, I = .int .i64 (i : Int) ∧ i ≤ h ∧ wr.rowIs w6.heap.size 39 m (ku .u64 (twF h i (cyF q ω step m a))) ∧ Below w6.heap.size w6 wr) (fun I _ => h - (intOf I).toNat)
          case atStart => exact ⟨0, rfl, Nat.zero_le _, HR7.out.congr fun k _ => by simp only [ku]; rw [twF_zero], hb7⟩
          case round =>
            clear hb7 HR7 hs7
            obtain ⟨i, rfl, hih, hrow, hb6r⟩ := hrel
            by_cases hin : i < h
            · obtain ⟨g1, o1, hA1, _, hg1, hcell1⟩ := HE.out.2 (by omega)
              obtain ⟨g2, o2, hA2, _, hg2, hcell2⟩ := HO.out.2 (by omega)
              have k1 := (hb6r.cell (p := ⟨g1, o1 + i, none⟩) (by show g1 < _; omega)).trans (hcell1 i hin)
              have k2 := (hb6r.cell (p := ⟨g2, o2 + i, none⟩) (by show g2 < _; omega)).trans (hcell2 i hin)
              simp only [trF, if_pos hin] at k1 k2
              obtain ⟨ev, hev⟩ : ∃ ev, cyF q ω (2 * step) h (fun k => a (2 * k)) i = ev := ⟨_, rfl⟩
              obtain ⟨od, hod⟩ : ∃ od, cyF q ω (2 * step) h (fun k => a (2 * k + 1)) i = od := ⟨_, rfl⟩
              have hevq : ev < q := by rw [← hev]; exact cyF_lt (by omega) i
              have hodq : od < q := by rw [← hod]; exact cyF_lt (by omega) i
              rw [hev] at k1
              rw [hod] at k2
              have hTr := HT6.out.below hb6r HT6.out.lt
              have k3 := hTr.cQ
              -- the power
              obtain ⟨kk, hkk⟩ : ∃ kk, 2 * step * i = kk := ⟨_, rfl⟩
              have hkb : kk ≤ 32 := by
                have : 2 * step * i ≤ 2 * step * h := Nat.mul_le_mul_left _ hih
                have := HST.out
                omega
              have hki : 2 * (step : Int) * (i : Int) = (kk : Int) := by rw [← hkk]; simp
              have hcall := fun (V : World) (hV : Tb V b n q P s) => tpower_any b n q kk s P V hV hn hn2 (by omega) HPB.out
              rw [HW.out kk (by omega)] at hcall
              obtain ⟨pw, hpw⟩ : ∃ pw, ω ^ kk % q = pw := ⟨_, rfl⟩
              have hpq : pw < q := by rw [← hpw]; exact Nat.mod_lt _ (by omega)
              rw [hpw] at hcall
              have HCALL := Lib.hid (fun d => hcall (wr.drewN d) ⟨hTr.cN, hTr.cQ, hTr.cP, hTr.cS, hTr.lt⟩)
              obtain ⟨mm, hmm⟩ : ∃ mm, od * pw = mm := ⟨_, rfl⟩
              have hmi : (od : Int) * (pw : Int) = (mm : Int) := by rw [← hmm]; simp
              have hmb : mm ≤ 4611686009837453316 := by rw [← hmm]; exact mul_lt_of hodq hpq hq2
              obtain ⟨xx, hxx⟩ : ∃ xx, mm % q = xx := ⟨_, rfl⟩
              have hxi : (mm : Int) % (q : Int) = (xx : Int) := by rw [← hxx]; simp
              have hxit : (mm : Int).tmod (q : Int) = (xx : Int) := by rw [Int.tmod_eq_emod_of_nonneg (by omega), hxi]
              have hxq : xx < q := by rw [← hxx]; exact Nat.mod_lt _ (by omega)
              have hX : cyX q ω step h a i = xx := by
                unfold cyX
                rw [hod, hkk, hpw, hmm, hxx]
              have HX := Lib.hid hX
              have HEV := Lib.hid hev
              have HROW := Lib.hid hrow
              have HTR := Lib.hid hTr
              have hq0 : ¬ q = 0 := by omega
              rw [hA1, hA2]
              clear hev hod hkk hpw hmm hxx hX hcall hcell1 hcell2 hrow hTr
              go_wp2
              go_quiet ((exact (HCALL.out _).mono fun e w' hh => ⟨hh.1, by obtain ⟨_, d, hd⟩ := hh; exact ⟨_, hd.trans (World.drewN_drewN _ _ _)⟩⟩))
              go_wp2
              have hb8 : Below w6.heap.size w6 (wr.drewN nq) := below_drewN hb6r nq
              have hrow8 : (wr.drewN nq).rowIs w6.heap.size 39 m (ku .u64 (twF h i (cyF q ω step m a))) := HROW.out
              have k1 : (wr.drewN nq).cell? ⟨g1, o1 + i, none⟩ = some (.int .u64 (ev : Int)) := k1
              have k3 : (wr.drewN nq).cell? ⟨b, 1, none⟩ = some (.int .u64 (q : Int)) := k3
              clear HROW HCALL HTR hki
              generalize wr.drewN nq = w8 at hb8 hrow8 k1 k3 ⊢
              have hmh : h + h ≤ m := by have := HM.out; omega
              have k5 := hrow8.cell (show i < m by omega)
              simp only [ku, twF] at k5
              rw [if_neg (by omega)] at k5
              have f5 := hrow8.frozen i
              have hz8 := hb8.size
              obtain ⟨v1, hv1⟩ : ∃ v1, (ev + xx) % q = v1 := ⟨_, rfl⟩
              have hv1i : ((ev : Int) + (xx : Int)) % (q : Int) = (v1 : Int) := by rw [← hv1]; simp
              have hv1it : ((ev : Int) + (xx : Int)).tmod (q : Int) = (v1 : Int) := by rw [Int.tmod_eq_emod_of_nonneg (by omega), hv1i]
              have hv1q : v1 < q := by rw [← hv1]; exact Nat.mod_lt _ (by omega)
              have HV1 := Lib.hid hv1
              have HR8 := Lib.hid hrow8
              clear hv1 hrow8
              go_region
              go_wp2
              have hr9 := (rowIs_set_ku HR8.out i v1).drew
              have hb9 := (hb8.setCell (p := ⟨w6.heap.size, i, none⟩) (Nat.le_refl _) (.int .u64 (v1 : Int))).drew
              have k1' := (hb8.trans (Below.refl _ _) |> fun _ => k1)
              have k19 : (w8.setCell ⟨w6.heap.size, i, none⟩ (.int .u64 (v1 : Int))).drew.cell? ⟨g1, o1 + i, none⟩ = some (.int .u64 (ev : Int)) := cell_other k1 (show g1 ≠ w6.heap.size by omega)
              have k39 : (w8.setCell ⟨w6.heap.size, i, none⟩ (.int .u64 (v1 : Int))).drew.cell? ⟨b, 1, none⟩ = some (.int .u64 (q : Int)) := cell_other k3 (show b ≠ w6.heap.size by have := HT6.out.lt; omega)
              clear hb8 HR8 k1 k3 k5 f5 hz8 k1'
              generalize (w8.setCell ⟨w6.heap.size, i, none⟩ (.int .u64 (v1 : Int))).drew = w9 at hr9 hb9 k19 k39 ⊢
              have k6 := hr9.cell (show i + h < m by omega)
              simp only [ku, twF] at k6
              rw [if_neg (by omega), if_neg (by omega)] at k6
              have f6 := hr9.frozen (i + h)
              have t3 : ((i : Int) + (h : Int)).toNat = i + h := by omega
              obtain ⟨v2, hv2⟩ : ∃ v2, (ev + q - xx) % q = v2 := ⟨_, rfl⟩
              have hv2i : ((ev : Int) + (q : Int) - (xx : Int)) % (q : Int) = (v2 : Int) := by rw [← hv2, Int.natCast_emod, Int.ofNat_sub (by omega)]; simp
              have hv2it : ((ev : Int) + (q : Int) - (xx : Int)).tmod (q : Int) = (v2 : Int) := by rw [Int.tmod_eq_emod_of_nonneg (by omega), hv2i]
              have hv2q : v2 < q := by rw [← hv2]; exact Nat.mod_lt _ (by omega)
              have HV2 := Lib.hid hv2
              have HR9 := Lib.hid hr9
              clear hv2 hr9 hv1i hv1it
              go_region
              go_wp2
              go_roundw
              case rel =>
                refine ⟨i + 1, by go_num, hin, ((rowIs_set_ku HR9.out (i + h) v2).drew).congr fun k _ => ?_, (hb9.setCell (p := ⟨w6.heap.size, i + h, none⟩) (Nat.le_refl _) _).drew⟩
                simp only [ku]
                rw [twF_next]
                · rw [HM.out, cyF_low (by omega), HEV.out, HX.out, HV1.out]
                · rw [HM.out, cyF_high (by omega) HNEG.out, HEV.out, HX.out, HV2.out]
              case measure => simp only [intOf]; omega
            · obtain rfl : h = i := by omega
              have hrow2 : wr.rowIs w6.heap.size 39 m (ku .u64 (cyF q ω step m a)) := hrow.congr fun k hk => by
                simp only [ku, twF]
                rw [if_pos (by have := HM.out; omega)]
              have HROW := Lib.hid hrow2
              clear hrow hrow2
              go_wp2
              go_ret
              exact ⟨_, _, rfl, .inr ⟨_, rfl, by omega, rfl, HROW.out⟩, Sq.of_row HROW.out (Nat.le_refl _) (Nat.zero_le _) HROW.out.lt (fun k hk => if_neg (by omega)) fun k hk => (if_pos hk).symm, hb06.trans (hb6r.mono hz06)⟩

end Go.Proofs.Ytbajapjaejpcjaa
