/- The walk of the law TransformProducts: it returns true. -/
import Derived.Test.YtbajapjaejpcjaaUni6
import Derived.Test.YtbajapjaejpcjaaSqArg
import Derived.Test.YtbajapjaejpcjaaRFwd6
import Derived.Test.YtbajapjaejpcjaaQTail
import Derived.Deep.RegionHeld3
import Derived.Deep.AppendLies
namespace Go.Proofs.Ytbajapjaejpcjaa
open Go.RowKit
set_option linter.unusedVariables false

def sumF (q n : Nat) (a b : Nat → Nat) (j : Nat) : Nat := if j < n then (a j + b j) % q else 0
theorem sumF_out {q n j : Nat} {a b : Nat → Nat} (h : n ≤ j) : sumF q n a b j = 0 := if_neg (by omega)
theorem sumF_lt {q n : Nat} {a b : Nat → Nat} (hq : 0 < q) (j : Nat) : sumF q n a b j < q := by
  unfold sumF
  split
  · exact Nat.mod_lt _ hq
  · exact hq
theorem fwd_sum {q n ψ j : Nat} {a b : Nat → Nat} (hq : 0 < q) (hj : j < n) : fwd q n ψ (sumF q n a b) j = (fwd q n ψ a j + fwd q n ψ b j) % q := by
  refine Cg.eq_nat ?_ (fwd_lt hq j) (Nat.mod_lt _ hq)
  refine (fwd_cg hj).trans ?_
  refine Cg.trans ?_ (Cg.modN _).symm
  rw [show (((fwd q n ψ a j + fwd q n ψ b j : Nat) : Nat) : Int) = ((fwd q n ψ a j : Nat) : Int) + ((fwd q n ψ b j : Nat) : Int) by simp]
  refine Cg.trans ?_ (Cg.add (fwd_cg hj) (fwd_cg hj)).symm
  rw [← zsum_add]
  refine Cg.sum n fun i hi => ?_
  unfold sumF
  rw [if_pos hi, ← Int.add_mul]
  refine Cg.mul (Cg.trans (Cg.modN _) (Cg.of_eq (by simp))) (Cg.refl _ _)

set_option maxRecDepth 100000 in
set_option maxHeartbeats 4000000 in
theorem transformProducts_any (n : Int) (q m c m' c' : Nat) (A A' : Option Addr) (a a' : Nat → Nat) (w : World) (hq : q ≤ 4294967295) (ha : Sq .u32 w 0 w.heap.size A m a) (ha' : Sq .u32 w 0 w.heap.size A' m' a') (hm : m ≤ 9223372036854775807) (hm' : m' ≤ 9223372036854775807) (hab : ∀ j, a j ≤ 4294967295) (hab' : ∀ j, a' j ≤ 4294967295) :
    Calls Try.prog 8 #[.agg #[.int .i64 n, .int .u32 q, .slice A m c, .slice A' m' c']] w (RetV w (.bool true)) := by
  have hcx := Cx.new w n q (.slice A m c) (.slice A' m' c') 29
  have hb1 : Below w.heap.size w (w.alloc (.cells #[.int .i64 n, .int .u32 q, .slice A m c, .slice A' m' c'] 29)) := (Below.refl _ w).alloc (Nat.le_refl _) _
  obtain ⟨w1, hw1⟩ : ∃ w1, w1 = w.alloc (.cells #[.int .i64 n, .int .u32 q, .slice A m c, .slice A' m' c'] 29) := ⟨_, rfl⟩
  rw [← hw1] at hcx hb1
  have HW1 := Lib.hid hw1
  have HCX := Lib.hid hcx
  have HA := Lib.hid ha
  have HAB := Lib.hid hab
  have HA' := Lib.hid ha'
  have HAB' := Lib.hid hab'
  have c0 := hcx.c0
  have c1 := hcx.c1
  have hz1 := hb1.size
  clear hw1 hcx ha hab ha' hab'
  go_enter Try.func8, Try.ntmps8
  repeat
    fail_if_success rw [← HW1.out]
    go_step
  rw [← HW1.out]
  go_wp2_with fail
  (with_reducible refine (new_any n q w1 hq).mono ?_)
  rintro e w2 ⟨hb2, hh⟩
  have hb12 := hb1.trans (hb2.mono hz1)
  have hz2 := hb12.size
  have HCX2 := Lib.hid (HCX.out.below hb2 HCX.out.lt)
  clear c0 c1
  rcases hh with ⟨hno, rfl⟩ | ⟨hok, p, rfl, ht⟩
  · clear hno
    go_wp2_with fail
    (with_reducible refine (awake_any w2).mono ?_)
    rintro e w3 ⟨rfl, hb3⟩
    go_wp2_with fail
    go_ret
    exact ⟨rfl, hb12.trans (hb3.mono hz2)⟩
  obtain ⟨k, rfl, _⟩ : ∃ k : Nat, n = (k : Int) ∧ True := by
    have := hok.1
    unfold dim6 at this
    exact ⟨n.toNat, by omega, trivial⟩
  rw [Int.toNat_natCast] at ht
  obtain ⟨b, ψ, s, rfl, hbg, hgood, htb, hle⟩ := new_open hok ht
  have HG := Lib.hid hgood
  have HT2 := Lib.hid htb
  have hk32 := hgood.nb
  have hq31 := hgood.q31
  have hq2 := hgood.rt.pr.1
  have hcl := HCX2.out.lt
  have hbt := htb.lt
  have c2 := HCX2.out.c2
  have HF := Lib.hid (forward_any b k q ψ s m c 0 w.heap.size A a w2 hgood htb (HA.out.below hb12 (Nat.le_refl _)) hm HAB.out hz2)
  clear hok ht hgood htb hle
  go_wp2_with fail
  refine HF.out.mono ?_
  rintro e w3 ⟨hb3, hh⟩
  have hb13 := hb12.trans (hb3.mono hz2)
  have hz3 := hb3.size
  have HCX3 := Lib.hid (HCX2.out.below hb3 HCX2.out.lt)
  have HT3 := Lib.hid (HT2.out.below hb3 HT2.out.lt)
  clear c2
  have c3 := HCX3.out.c3
  have HF2 := Lib.hid (forward_any b k q ψ s m' c' 0 w.heap.size A' a' w3 HG.out HT3.out (HA'.out.below hb13 (Nat.le_refl _)) hm' HAB'.out hb13.size)
  rcases hh with ⟨hno, rfl⟩ | ⟨hok, b3, rfl, hbg3, hr3⟩
  · clear hno
    obtain ⟨L1, E1, G1, l1, u1, r1⟩ := ret_uni (Okl k q m' a') k (fwd q k ψ a') (fun j hj => fwd_out hj)
    go_wp2_with fail
    refine HF2.out.mono ?_
    rintro e w4 hh
    obtain ⟨hb4, A1, e1, rfl, hs1⟩ := u1 _ _ _ hh
    have hb14 := hb13.trans (hb4.mono hb13.size)
    clear hh hs1 c3
    go_wp2_with fail
    (with_reducible refine (awake_any w4).mono ?_)
    rintro e w5 ⟨rfl, hb5⟩
    go_wp2_with fail
    go_ret
    exact ⟨rfl, hb14.trans (hb5.mono hb14.size)⟩
  have HR3 := Lib.hid hr3
  have HOK := Lib.hid hok
  clear hr3 hok
  go_wp2_with fail
  refine HF2.out.mono ?_
  rintro e w4 ⟨hb4, hh⟩
  have hb14 := hb13.trans (hb4.mono hb13.size)
  have hz4 := hb4.size
  have HCX4 := Lib.hid (HCX3.out.below hb4 (by omega))
  have HT4 := Lib.hid (HT3.out.below hb4 (by omega))
  have HR34 := Lib.hid (rowIs_below HR3.out hb4 HR3.out.lt)
  clear c3
  rcases hh with ⟨hno, rfl⟩ | ⟨hok, b4, rfl, hbg4, hr4⟩
  · clear hno
    go_wp2_with fail
    (with_reducible refine (awake_any w4).mono ?_)
    rintro e w5 ⟨rfl, hb5⟩
    go_wp2_with fail
    go_ret
    exact ⟨rfl, hb14.trans (hb5.mono hb14.size)⟩
  have HR4 := Lib.hid hr4
  have HOK2 := Lib.hid hok
  have hmk := HOK.out.1
  have hmk2 := hok.1
  clear hr4 hok
  subst hmk
  have hmk3 := hmk2.symm
  clear hmk2
  subst hmk3
  have c1 := HCX4.out.c1
  have q1 : ((q : Int) == 0) = false := by simp; omega
  clear HF HF2 HT2 HT3 HR3 HCX2 HCX3
  go_wp2_with fail
  go_loopw [9, 10] (fun O I wr => ∃ (i : Nat) (A2 : Option Addr) (c2 : Nat), i ≤ m ∧ I = .int .i64 (i : Int) ∧ O = .slice A2 i c2 ∧ Own .u32 wr w4.heap.size 22 A2 i c2 (trF i (sumF q m a a')) ∧ Below w4.heap.size w4 wr) (fun _ I _ => m - (intOf I).toNat)
  case atStart => exact ⟨0, none, 0, Nat.zero_le _, rfl, rfl, Own.congr (Own.nil _ _ _ _) (fun j => (trF_out (Nat.zero_le _)).symm), Below.refl _ _⟩
  case round =>
    obtain ⟨i, A2, e2, him, rfl, rfl, hown, hbl⟩ := hrel
    have hcr := HCX4.out.below hbl (by omega)
    have c2 := hcr.c2
    have c3 := hcr.c3
    clear c1
    have c1 := hcr.c1
    have HOWN := Lib.hid hown
    have hzr := hbl.size
    have hb1r := hb14.trans (hbl.mono hb14.size)
    have HCR := Lib.hid hcr
    clear hown hcr
    by_cases hil : i < m
    · have d1 : decide ((i : Int) < (m : Int)) = true := decide_eq_true (by omega)
      obtain ⟨g, off, hAe, _, hg, hcell⟩ := HA.out.2 (by omega)
      obtain ⟨g', off', hAe', _, hg', hcell'⟩ := HA'.out.2 (by omega)
      have k1 := (hb1r.cell (p := ⟨g, off + i, none⟩) (by show g < _; omega)).trans (hcell i hil)
      have k2 := (hb1r.cell (p := ⟨g', off' + i, none⟩) (by show g' < _; omega)).trans (hcell' i hil)
      have hxq := HOK.out.2 i hil
      have hyq := HOK2.out.2 i hil
      obtain ⟨x, hx⟩ : ∃ x, a i = x := ⟨_, rfl⟩
      obtain ⟨y, hy⟩ : ∃ y, a' i = y := ⟨_, rfl⟩
      rw [hx] at k1 hxq
      rw [hy] at k2 hyq
      rw [hAe] at c2
      rw [hAe'] at c3
      obtain ⟨z, hz⟩ : ∃ z, (x + y) % q = z := ⟨_, rfl⟩
      have hzi : ((x : Int) + (y : Int)) % (q : Int) = (z : Int) := by rw [← hz]; simp
      have hzt : ((x : Int) + (y : Int)).tmod (q : Int) = (z : Int) := by rw [Int.tmod_eq_emod_of_nonneg (by omega), hzi]
      have hzq : z < q := by rw [← hz]; exact Nat.mod_lt _ (by omega)
      have hq0 : ¬ q = 0 := by omega
      have HV : Hid (Value.int .u32 (z : Int) = .int .u32 ((((sumF q m a a') i : Nat) : Nat) : Int)) := Lib.hid (by unfold sumF; rw [if_pos hil, hx, hy, hz])
      clear hcell hcell' hx hy hz hAe hAe'
      have HS5 : Hid (∀ W', Below w4.heap.size wr W' → W'.cell? ⟨w.heap.size, 2, none⟩ = some (.slice (some ⟨g, off, none⟩) m c) ∧ W'.cell? ⟨w.heap.size, 3, none⟩ = some (.slice (some ⟨g', off', none⟩) m c') ∧ W'.cell? ⟨w.heap.size, 1, none⟩ = some (.int .u32 q) ∧ W'.cell? ⟨g, off + i, none⟩ = some (.int .u32 (x : Int)) ∧ W'.cell? ⟨g', off' + i, none⟩ = some (.int .u32 (y : Int))) := Lib.hid (fun W' hb => ⟨(hb.cell (p := ⟨w.heap.size, 2, none⟩) (by show w.heap.size < _; omega)).trans c2, (hb.cell (p := ⟨w.heap.size, 3, none⟩) (by show w.heap.size < _; omega)).trans c3, (hb.cell (p := ⟨w.heap.size, 1, none⟩) (by show w.heap.size < _; omega)).trans c1, (hb.cell (p := ⟨g, off + i, none⟩) (by show g < _; omega)).trans k1, (hb.cell (p := ⟨g', off' + i, none⟩) (by show g' < _; omega)).trans k2⟩)
      obtain ⟨i0, hi0, hz9⟩ := Option.map_eq_some_iff.1 e32.hi
      simp only [Prod.mk.injEq] at hz9
      obtain ⟨y1, y2, y3⟩ := hz9
      have ho9 := (HOWN.out.alloc (.cells #[Value.int .u32 (z : Int)] 22)).2
      have HO9 := Lib.hid ho9
      have hb9 := (Below.refl w4.heap.size wr).alloc hzr (.cells #[Value.int .u32 (z : Int)] 22)
      have hrow9 : ∀ k, (Value.slice A2 i e2).ownBlock = some k → w4.heap.size ≤ k := fun k hk => (HOWN.out.2.lt k hk).1
      have HROW9 := Lib.hid hrow9
      clear ho9 hrow9
      have hqI : ((q : Int) = 0) = False := by simp; omega
      have hqN : ((q : Int) ≠ 0) = True := by simp; omega
      have hwr : IntKind.u64.wrap ((x : Int) + (y : Int)) = (x : Int) + (y : Int) := IntWalk.u64_in _ (by omega)
      have hwx : IntKind.u64.wrap (x : Int) = (x : Int) := IntWalk.u64_in _ (by omega)
      have hwy : IntKind.u64.wrap (y : Int) = (y : Int) := IntWalk.u64_in _ (by omega)
      have hwq : IntKind.u64.wrap (q : Int) = (q : Int) := IntWalk.u64_in _ (by omega)
      have hwz : IntKind.u64.wrap (z : Int) = (z : Int) := IntWalk.u64_in _ (by omega)
      have hwz2 : IntKind.u32.wrap (z : Int) = (z : Int) := IntWalk.u32_in _ (by omega)
      go_wp2
      go_region_held3 (fun w' => w'.cell? ⟨w.heap.size, 2, none⟩ = some (.slice (some ⟨g, off, none⟩) m c) ∧ w'.cell? ⟨w.heap.size, 3, none⟩ = some (.slice (some ⟨g', off', none⟩) m c') ∧ w'.cell? ⟨w.heap.size, 1, none⟩ = some (.int .u32 q) ∧ w'.cell? ⟨g, off + i, none⟩ = some (.int .u32 (x : Int)) ∧ w'.cell? ⟨g', off' + i, none⟩ = some (.int .u32 (y : Int)))
        (first
          | exact HS5.out _ (Below.refl _ _)
          | exact HS5.out _ (below_drewN (Below.refl _ _) 1)
          | exact HS5.out _ hb9
          | exact HS5.out _ (below_drewN hb9 1)
          | exact HS5.out _ ((below_drewN (Below.refl _ _) 1).alloc hzr _)
          | exact HS5.out _ hbx
          | fail)
        (first
          | (refine step_append_lies _ (by rfl) _ _ _ (by rfl) w4.heap.size 22 i0 _ 1 4 e32.ht hi0 y1 y2 y3 (by rfl) (by decide) _ i _ (by rfl) (HO9.out.drew) ⟨wr.heap.size, 0, none⟩ 1 1 [.int .u32 (z : Int)] (by rfl) (by rfl) (World.news_of_block (cs := #[.int .u32 (z : Int)]) (t := 22) (fr := (0, 0)) (heap_alloc_new wr _)) (by simp [Value.oneCell']) (by omega) (by unfold maxLen; omega) (by omega) (Nat.le_trans hzr hb9.size) (wr.heap.size + 1) (by simp) ?_
             intro gg cap w5 hown5 hg5 hat5 hlt5
             have hbx : Below w4.heap.size wr w5 := (below_drewN hb9 1).grown hg5 (Nat.le_trans hzr hb9.size) HROW9.out)
          | fail)
      have hown3 : Own .u32 w5 w4.heap.size 22 (some ⟨gg, 0, none⟩) (i + 1) cap (trF (i + 1) (sumF q m a a')) := ⟨fun j hj => trF_out hj, by
        have h5 := hown5
        rw [show [Value.int .u32 (z : Int)] = (List.range 1).map (ku .u32 (oneF (sumF q m a a' i))) by rw [HV.out]; rfl, app_list .u32 _ _ (trF (i + 1) (sumF q m a a')) i 1 (fun j hj => trF_lt hj) (fun j _ => trF_add j)] at h5
        exact h5⟩
      have HO3 := Lib.hid hown3
      have HBX := Lib.hid hbx
      clear hown3 hown5 hbx hg5 hat5 hlt5 hb9 c1 c2 c3 k1 k2 hwx hwy hwq hwz hwz2 hwr hqI hqN
      go_wp2
      go_roundw
      case rel => exact ⟨i + 1, _, cap, by omega, by go_num, rfl, HO3.out, hbl.trans HBX.out⟩
      case measure => simp only [intOf]; omega
    · obtain rfl : m = i := by omega
      have d1 : decide ((m : Int) < (m : Int)) = false := decide_eq_false (by omega)
      have hown := HOWN.out
      rw [trF_all fun j hj => sumF_out hj] at hown
      have hsq := (hown.sq (Nat.le_refl _)).wide (lo' := 0) (Nat.zero_le _) (Nat.le_refl _)
      have hT5 := HT4.out.below hbl (by omega)
      have HSQ := Lib.hid hsq
      have HT5 := Lib.hid hT5
      have HR5 := Lib.hid (And.intro (rowIs_below HR34.out hbl HR34.out.lt) (rowIs_below HR4.out hbl HR4.out.lt))
      have HF3 := Lib.hid (forward_any b m q ψ s m e2 0 wr.heap.size A2 (sumF q m a a') wr HG.out hT5 hsq hm (fun j => by have := sumF_lt (n := m) (a := a) (b := a') (show 0 < q by omega) j; omega) (Nat.le_refl _))
      clear hown hsq hT5
      go_wp2_with fail
      refine HF3.out.mono ?_
      rintro e w6 ⟨hb6, hh⟩
      have hz6 := hb6.size
      have hb16 := hb1r.trans (hb6.mono hb1r.size)
      rcases hh with ⟨hno, _⟩ | ⟨_, b6, rfl, hbg6, hr6⟩
      · exact absurd ⟨rfl, fun j _ => sumF_lt (by omega) j⟩ hno
      have HT6 := Lib.hid (HT5.out.below hb6 (by omega))
      have HCX6 := Lib.hid (HCR.out.below hb6 (by omega))
      have HR6 := Lib.hid (And.intro (rowIs_below HR5.out.1 hb6 HR5.out.1.lt) (And.intro (rowIs_below HR5.out.2 hb6 HR5.out.2.lt) hr6))
      clear hr6 c1 c2 c3
      have c2 := HCX6.out.c2
      have c3 := HCX6.out.c3
      have HM := Lib.hid (tmul_any b m q ψ s m c m c' 0 w.heap.size 0 w.heap.size A A' a a' w6 HG.out HT6.out (HA.out.below hb16 (Nat.le_refl _)) (HA'.out.below hb16 (Nat.le_refl _)) hm hm HAB.out HAB'.out hb16.size hb16.size)
      go_wp2_with fail
      refine HM.out.mono ?_
      rintro e w7 ⟨hb7, hh⟩
      have hz7 := hb7.size
      have hb17 := hb16.trans (hb7.mono hb16.size)
      rcases hh with ⟨hno, _⟩ | ⟨_, b7, rfl, hbg7, hr7⟩
      · exact absurd ⟨HOK.out, HOK2.out⟩ hno
      have HT7 := Lib.hid (HT6.out.below hb7 (by omega))
      have HCX7 := Lib.hid (HCX6.out.below hb7 (by omega))
      have HR7 := Lib.hid (And.intro (rowIs_below HR6.out.1 hb7 HR6.out.1.lt) (And.intro (rowIs_below HR6.out.2.1 hb7 HR6.out.2.1.lt) (rowIs_below HR6.out.2.2 hb7 HR6.out.2.2.lt)))
      have HF4 := Lib.hid (forward_any b m q ψ s m m 0 w7.heap.size _ (prF q m a a') w7 HG.out HT7.out (Sq.of_row hr7 (Nat.le_refl _) (Nat.zero_le _) hr7.lt (fun j hj => prF_out hj) (fun _ _ => rfl)) hm (fun j => by have := prF_lt (n := m) (a := a) (b := a') (show 0 < q by omega) j; omega) (Nat.le_refl _))
      clear hr7 c2 c3
      go_wp2_with fail
      refine HF4.out.mono ?_
      rintro e w8 ⟨hb8, hh⟩
      have hz8 := hb8.size
      have hb18 := hb17.trans (hb8.mono hb17.size)
      rcases hh with ⟨hno, _⟩ | ⟨_, b8, rfl, hbg8, hr8⟩
      · exact absurd ⟨rfl, fun j _ => prF_lt (by omega) j⟩ hno
      have HCX8 := Lib.hid (HCX7.out.below hb8 (by omega))
      have HR8 := Lib.hid (And.intro (rowIs_below HR7.out.1 hb8 HR7.out.1.lt) (And.intro (rowIs_below HR7.out.2.1 hb8 HR7.out.2.1.lt) (And.intro (rowIs_below HR7.out.2.2 hb8 HR7.out.2.2.lt) hr8)))
      clear hr8
      have c0 := HCX8.out.c0
      have f1 : ((m : Int) != (m : Int)) = false := by simp
      clear HF3 HF4 HM HR7 HR6 HR5 HT7 HT6 HT5 HCX7 HCX6 HCR HSQ HOWN d1
      go_wp2_with fail
      go_loopw [17] (fun K wr => ∃ k : Nat, k ≤ m ∧ K = .int .i64 (k : Int) ∧ Below w8.heap.size w8 wr) (fun K _ => m - (intOf K).toNat)
      case atStart => exact ⟨0, Nat.zero_le _, rfl, Below.refl _ _⟩
      case round =>
        clear c0
        obtain ⟨j, hjm, rfl, hb9⟩ := hrel
        have hcr := HCX8.out.below hb9 (by omega)
        have c0 := hcr.c0
        have c1 := hcr.c1
        have hb19 := hb18.trans (hb9.mono hb18.size)
        clear hcr
        by_cases hjl : j < m
        · have d1 : decide ((j : Int) < (m : Int)) = true := decide_eq_true (by omega)
          have k1 := (rowIs_below HR8.out.1 hb9 HR8.out.1.lt).cell hjl
          have k2 := (rowIs_below HR8.out.2.1 hb9 HR8.out.2.1.lt).cell hjl
          have k3 := (rowIs_below HR8.out.2.2.1 hb9 HR8.out.2.2.1.lt).cell hjl
          have k4 := (rowIs_below HR8.out.2.2.2 hb9 HR8.out.2.2.2.lt).cell hjl
          have e3 := fwd_sum (ψ := ψ) (a := a) (b := a') (show 0 < q by omega) hjl
          have e4 := fwd_pr (a := a) (b := a') HG.out.rt hjl
          simp only [ku] at k1 k2 k3 k4
          have hxq := fwd_lt (n := m) (ψ := ψ) (a := a) (show 0 < q by omega) j
          have hyq := fwd_lt (n := m) (ψ := ψ) (a := a') (show 0 < q by omega) j
          rw [e3] at k3
          rw [e4] at k4
          clear e3 e4
          generalize fwd q m ψ a j = x at k1 k3 k4 hxq
          generalize fwd q m ψ a' j = y at k2 k3 k4 hyq
          obtain ⟨z, hz⟩ : ∃ z, (x + y) % q = z := ⟨_, rfl⟩
          obtain ⟨u, hu⟩ : ∃ u, x * y % q = u := ⟨_, rfl⟩
          obtain ⟨mm, hmm⟩ : ∃ mm, x * y = mm := ⟨_, rfl⟩
          rw [hz] at k3
          rw [hu] at k4
          have hzi : ((x : Int) + (y : Int)) % (q : Int) = (z : Int) := by rw [← hz]; simp
          have hzt : ((x : Int) + (y : Int)).tmod (q : Int) = (z : Int) := by rw [Int.tmod_eq_emod_of_nonneg (by omega), hzi]
          have hzq : z < q := by rw [← hz]; exact Nat.mod_lt _ (by omega)
          have huq : u < q := by rw [← hu]; exact Nat.mod_lt _ (by omega)
          have hmi : (x : Int) * (y : Int) = (mm : Int) := by rw [← hmm]; simp
          have hmb : mm ≤ 4611686009837453316 := by rw [← hmm]; exact mul_lt_of hxq hyq hq31
          rw [hmm] at hu
          have hui : (mm : Int) % (q : Int) = (u : Int) := by rw [← hu]; simp
          have hut : (mm : Int).tmod (q : Int) = (u : Int) := by rw [Int.tmod_eq_emod_of_nonneg (by omega), hui]
          have f2 : ((z : Int) != (z : Int)) = false := by simp
          have f3 : ((u : Int) != (u : Int)) = false := by simp
          have hq0 : ¬ q = 0 := by omega
          clear hz hu hmm
          go_wp2
          go_quiet (fail)
          go_wp2
          go_roundw
          case rel => exact ⟨j + 1, hjl, by go_num, below_drewN hb9 _⟩
          case measure => simp only [intOf]; omega
        · obtain rfl : m = j := by omega
          have d1 : decide ((m : Int) < (m : Int)) = false := decide_eq_false (by omega)
          go_wp2_with fail
          (with_reducible refine (awake_any wr).mono ?_)
          rintro e w10 ⟨rfl, hb10⟩
          go_wp2_with fail
          go_ret
          exact ⟨rfl, hb19.trans (hb10.mono hb19.size)⟩
end Go.Proofs.Ytbajapjaejpcjaa
