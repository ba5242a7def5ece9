/- The contract of the table's Mul. -/
import Derived.Test.YtbajapjaejpcjaaInv6
namespace Go.Proofs.Ytbajapjaejpcjaa
open Go.RowKit
set_option linter.unusedVariables false

theorem Ok6.pair {n q m m' : Nat} {a a' : Nat → Nat} : Ok6 n q 2 (two m m') (two a a') ↔ (Okl n q m a ∧ Okl n q m' a') := by
  constructor
  · intro h
    exact ⟨h 0 (by omega), h 1 (by omega)⟩
  · rintro ⟨h1, h2⟩ i hi
    match i, hi with
    | 0, _ => exact h1
    | 1, _ => exact h2

set_option maxRecDepth 100000 in
set_option maxHeartbeats 4000000 in
theorem tmul_any (b n q ψ s m c m' c' lo hi lo' hi' : Nat) (A A' : Option Addr) (a a' : Nat → Nat) (w : World) (hg : Good n q ψ s) (ht : Tb w b n q (pwF q n ψ) s) (ha : Sq .u32 w lo hi A m a) (ha' : Sq .u32 w lo' hi' A' m' a') (hm : m ≤ 9223372036854775807) (hm' : m' ≤ 9223372036854775807) (hab : ∀ i, a i ≤ 4294967295) (hab' : ∀ i, a' i ≤ 4294967295) (hhi : hi ≤ w.heap.size) (hhi' : hi' ≤ w.heap.size) :
    Calls Try.prog 20 #[.pointer (some ⟨b, 0, none⟩), .slice A m c, .slice A' m' c'] w (RetL w (Okl n q m a ∧ Okl n q m' a') n (prF q n a a')) := by
  obtain ⟨hn2, hn32⟩ := hg.nb
  have hq2 := hg.rt.pr.1
  have hq31 := hg.q31
  have hbl1 : Below w.heap.size w (w.alloc (.cells #[.slice A m c, .slice A' m' c'] 27)) := (Below.refl _ w).alloc (Nat.le_refl _) _
  have hcs : Cs (w.alloc (.cells #[.slice A m c, .slice A' m' c'] 27)) w.heap.size 2 (two A A') (two m m') (two c c') := Cs.two_ (by rw [World.cell?_alloc_new]; rfl) (by rw [World.cell?_alloc_new]; rfl)
  obtain ⟨w1, hw1⟩ : ∃ w1, w1 = w.alloc (.cells #[.slice A m c, .slice A' m' c'] 27) := ⟨_, rfl⟩
  rw [← hw1] at hbl1 hcs
  have hz1 := hbl1.size
  have hT1 := ht.below hbl1 ht.lt
  have hsq : ∀ i, i < 2 → Sq .u32 w1 0 w.heap.size (two A A' i) (two m m' i) (two a a' i) := fun i hi => by
    match i, hi with
    | 0, _ => exact (ha.below hbl1 hhi).wide (Nat.zero_le _) hhi
    | 1, _ => exact (ha'.below hbl1 hhi').wide (Nat.zero_le _) hhi'
  have hmm : ∀ i, i < 2 → two m m' i ≤ 9223372036854775807 := fun i hi => by
    match i, hi with
    | 0, _ => exact hm
    | 1, _ => exact hm'
  have hff : ∀ i j, two a a' i j ≤ 4294967295 := fun i j => by
    unfold two
    split
    · exact hab j
    · exact hab' j
  have HCHK := Lib.hid (tcheck_any b n q s w.heap.size 2 (pwF q n ψ) (two A A') (two m m') (two c c') (two a a') 0 w.heap.size w1 hT1 (by omega) hn32 hq31 hcs hsq hmm hff (by omega) 2)
  have HG := Lib.hid hg
  have HT := Lib.hid hT1
  have HA := Lib.hid (ha.below hbl1 hhi)
  have HA' := Lib.hid (ha'.below hbl1 hhi')
  have HAB := Lib.hid hab
  have HAB' := Lib.hid hab'
  have HW1 := Lib.hid hw1
  clear hg ht hcs hT1 ha ha' hab hab' hw1 hsq hmm hff
  go_enter Try.func20, Try.ntmps20
  go_wp2_with fail
  rw [← HW1.out]
  (with_reducible refine HCHK.out.mono ?_)
  rintro e w2 ⟨rfl, hh⟩
  rcases hh with ⟨hok, rfl⟩ | ⟨hok, rfl⟩
  rotate_left
  · rw [Ok6.pair] at hok
    have HOK := Lib.hid hok
    clear hok
    go_wp2_with fail
    go_ret2
    exact ⟨hbl1, .inl ⟨HOK.out, rfl⟩⟩
  rw [Ok6.pair] at hok
  have HOK := Lib.hid hok
  obtain ⟨⟨hmn, _⟩, ⟨hmn', _⟩⟩ := hok
  subst hmn
  have HMN' := Lib.hid hmn'
  clear hmn'
  have HF1 := Lib.hid (forward_any b m q ψ s m c lo hi A a w1 HG.out HT.out HA.out hm HAB.out (by omega))
  go_wp2_with fail
  refine HF1.out.mono ?_
  rintro e w3 ⟨hb3, hh⟩
  have hz3 := hb3.size
  rcases hh with ⟨hno, _⟩ | ⟨_, b3, rfl, hbg3, hr3⟩
  · exact absurd HOK.out.1 hno
  have HR3 := Lib.hid hr3
  have HT3 := Lib.hid (HT.out.below hb3 HT.out.lt)
  have HF2 := Lib.hid (forward_any b m q ψ s m' c' lo' hi' A' a' w3 HG.out HT3.out (HA'.out.below hb3 (by omega)) hm' HAB'.out (by omega))
  clear hr3
  go_wp2_with fail
  refine HF2.out.mono ?_
  rintro e w4 ⟨hb4, hh⟩
  have hz4 := hb4.size
  rcases hh with ⟨hno, _⟩ | ⟨_, b4, rfl, hbg4, hr4⟩
  · exact absurd HOK.out.2 hno
  have HT4 := Lib.hid (HT3.out.below hb4 HT3.out.lt)
  have HR34 := Lib.hid (rowIs_below HR3.out hb4 HR3.out.lt)
  have HR4 := Lib.hid hr4
  have hb34 : b3 ≠ b4 := by have := HR3.out.lt; omega
  have hb3l := HR3.out.lt
  have hbb : Below w.heap.size w w4 := hbl1.trans ((hb3.trans (hb4.mono hz3)).mono hz1)
  clear hr4
  go_wp2_with fail
  go_loopw [36] (fun I wr => ∃ i : Nat, I = .int .i64 (i : Int) ∧ i ≤ m ∧ wr.rowIs b3 22 m (ku .u32 fun k => if k < i then fwd q m ψ a k * fwd q m ψ a' k % q else fwd q m ψ a k) ∧ wr.rowIs b4 22 m (ku .u32 (fwd q m ψ a')) ∧ Below w1.heap.size w1 wr) (fun I _ => m - (intOf I).toNat)
  case atStart => exact ⟨0, rfl, Nat.zero_le _, HR34.out.congr fun k _ => rfl, HR4.out, hb3.trans (hb4.mono hz3)⟩
  case round =>
    obtain ⟨i, rfl, him, hrow, hrow4, hbl⟩ := hrel
    by_cases hin : i < m
    · have k1 := hrow.cell hin
      simp only [ku] at k1
      rw [if_neg (by omega)] at k1
      have k2 := hrow4.cell hin
      simp only [ku] at k2
      have hxq := fwd_lt (q := q) (n := m) (ψ := ψ) (a := a) (by omega) i
      have hyq := fwd_lt (q := q) (n := m) (ψ := ψ) (a := a') (by omega) i
      obtain ⟨x, e1⟩ : ∃ x, fwd q m ψ a i = x := ⟨_, rfl⟩
      obtain ⟨y, e2⟩ : ∃ y, fwd q m ψ a' i = y := ⟨_, rfl⟩
      rw [e1] at k1 hxq
      rw [e2] at k2 hyq
      have f1 := hrow.frozen i
      have hTr := HT.out.below hbl HT.out.lt
      have k3 := hTr.cQ
      obtain ⟨mm, hmm⟩ : ∃ mm, x * y = mm := ⟨_, rfl⟩
      have hmi : (x : Int) * (y : Int) = (mm : Int) := by rw [← hmm]; simp
      have hmb : mm ≤ 4611686009837453316 := by rw [← hmm]; exact mul_lt_of hxq hyq hq31
      obtain ⟨z, hz⟩ : ∃ z, mm % q = z := ⟨_, rfl⟩
      have hzi : (mm : Int) % (q : Int) = (z : Int) := by rw [← hz]; simp
      have hzq : z < q := by rw [← hz]; exact Nat.mod_lt _ (by omega)
      have hw1' : (x : Int) * (y : Int) % (q : Int) = (z : Int) := by rw [hmi, hzi]
      have hw2' : ((x : Int) * (y : Int)).tmod (q : Int) = (z : Int) := by rw [Int.tmod_eq_emod_of_nonneg (by omega), hw1']
      have hw3' : (IntKind.u64.wrap ((x : Int) * (y : Int))).tmod (q : Int) = (z : Int) := by rw [hmi, IntWalk.u64_in _ (by omega), Int.tmod_eq_emod_of_nonneg (by omega), hzi]
      have HY : Hid (fwd q m ψ a i * fwd q m ψ a' i % q = z) := Lib.hid (by rw [e1, e2, hmm, hz])
      have hq0 : ¬ q = 0 := by omega
      have HROW := Lib.hid hrow
      have HROW4 := Lib.hid hrow4
      clear e1 e2 hrow hrow4 hmm hz hTr
      go_wp2
      refine wp_region_quiet_tail 20 (by kernel_rfl) (by kernel_rfl) ?_
      simp only [List.take_succ_cons, List.take_zero, List.drop_succ_cons, List.drop_zero]
      repeat (go_big_quiet_step (fail))
      refine wpQuiet_nil ?_
      rintro _ ⟨d, rfl⟩
      go_wp2
      all_goals
        go_roundw
        case rel =>
          refine ⟨i + 1, by go_num, hin, (rowIs_set_ku (w := wr.drewN d) HROW.out i z).congr fun k _ => ?_, World.rowIs.setOther (w := wr.drewN d) HROW4.out hb34.symm _, (below_drewN hbl d).setCell (p := ⟨b3, i, none⟩) (show w1.heap.size ≤ b3 by omega) _⟩
          simp only [ku]
          congr 2
          by_cases hki : k = i
          · rw [if_pos hki, hki, if_pos (Nat.lt_succ_self i), HY.out]
          · rw [if_neg hki]
            by_cases h2 : k < i
            · rw [if_pos h2, if_pos (by omega)]
            · rw [if_neg h2, if_neg (by omega)]
        case measure => simp only [intOf]; omega
    · obtain rfl : m = i := by omega
      have hTr := HT.out.below hbl HT.out.lt
      have hzr := hbl.size
      have hx : ∀ k, k < m → (if k < m then fwd q m ψ a k * fwd q m ψ a' k % q else 0) = fwd q m ψ a k * fwd q m ψ a' k % q := fun k hk => if_pos hk
      have hsq : Sq .u32 wr 0 wr.heap.size (some ⟨b3, 0, none⟩) m (fun k => if k < m then fwd q m ψ a k * fwd q m ψ a' k % q else 0) := Sq.of_row hrow (Nat.le_refl _) (Nat.zero_le _) hrow.lt (fun k hk => if_neg (by omega)) fun k hk => by rw [if_pos hk, if_pos hk]
      have hxq : ∀ k, (if k < m then fwd q m ψ a k * fwd q m ψ a' k % q else 0) < q := fun k => by
        have hq : 0 < q := by omega
        split
        · exact Nat.mod_lt _ hq
        · exact hq
      have HI := Lib.hid (inverse6_any b m q ψ s m m 0 wr.heap.size _ _ wr HG.out hTr hsq hm (fun k => by have := hxq k; omega) (Nat.le_refl _))
      have HOKX : Hid (Okl m q m (fun k => if k < m then fwd q m ψ a k * fwd q m ψ a' k % q else 0)) := Lib.hid ⟨rfl, fun k _ => hxq k⟩
      have HX := Lib.hid hx
      clear hsq hrow hrow4 hTr hxq hx
      go_wp2_with fail
      refine HI.out.mono ?_
      rintro e w6 ⟨hb6, hh⟩
      rcases hh with ⟨hno, _⟩ | ⟨_, b6, rfl, hbg6, hr6⟩
      · exact absurd HOKX.out hno
      have HR6 := Lib.hid hr6
      clear hr6
      go_wp2_with fail
      go_ret2
      refine ⟨hbl1.trans ((hbl.trans (hb6.mono hzr)).mono hz1), .inr ⟨HOK.out, b6, rfl, by omega, HR6.out.congr fun k hk => ?_⟩⟩
      simp only [ku]
      rw [ivs_pr HG.out.rt HG.out.sh HX.out hk]
end Go.Proofs.Ytbajapjaejpcjaa
