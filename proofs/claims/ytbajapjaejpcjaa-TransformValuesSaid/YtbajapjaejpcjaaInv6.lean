/- The contract of Inverse. -/
import Derived.Test.YtbajapjaejpcjaaMap6
import Derived.Test.YtbajapjaejpcjaaQTail
namespace Go.Proofs.Ytbajapjaejpcjaa
open Go.RowKit
set_option linter.unusedVariables false

set_option maxRecDepth 100000 in
set_option maxHeartbeats 4000000 in
theorem inverse6_any (b n q ψ s m c lo hi : Nat) (A : Option Addr) (a : Nat → Nat) (w : World) (hg : Good n q ψ s) (ht : Tb w b n q (pwF q n ψ) s) (ha : Sq .u32 w lo hi A m a) (hm : m ≤ 9223372036854775807) (hab : ∀ i, a i ≤ 4294967295) (hhi : hi ≤ w.heap.size) :
    Calls Try.prog 15 #[.pointer (some ⟨b, 0, none⟩), .slice A m c] w (RetL w (Okl n q m a) n (ivs q n ψ s a)) := by
  obtain ⟨hn2, hn32⟩ := hg.nb
  have hq2 := hg.rt.pr.1
  have hq31 := hg.q31
  have hbl1 : Below w.heap.size w (w.alloc (.cells #[.slice A m c] 27)) := (Below.refl _ w).alloc (Nat.le_refl _) _
  have hcs : Cs (w.alloc (.cells #[.slice A m c] 27)) w.heap.size 1 (fun _ => A) (fun _ => m) (fun _ => c) := Cs.one_ (by rw [World.cell?_alloc_new]; rfl)
  obtain ⟨w1, hw1⟩ : ∃ w1, w1 = w.alloc (.cells #[.slice A m c] 27) := ⟨_, rfl⟩
  rw [← hw1] at hbl1 hcs
  have hz1 := hbl1.size
  have hT1 := ht.below hbl1 ht.lt
  have HCHK := Lib.hid (tcheck_any b n q s w.heap.size 1 (pwF q n ψ) (fun _ => A) (fun _ => m) (fun _ => c) (fun _ => a) lo hi w1 hT1 (by omega) hn32 hq31 hcs (fun _ _ => ha.below hbl1 hhi) (fun _ _ => hm) (fun _ => hab) (by omega) 1)
  have HG := Lib.hid hg
  have HT := Lib.hid hT1
  have HA := Lib.hid (ha.below hbl1 hhi)
  have HAB := Lib.hid hab
  have HW1 := Lib.hid hw1
  clear hg ht hcs hT1 ha hab hw1
  go_enter Try.func15, Try.ntmps15
  go_wp2_with fail
  rw [← HW1.out]
  (with_reducible refine HCHK.out.mono ?_)
  rintro e w2 ⟨rfl, hh⟩
  rcases hh with ⟨hok, rfl⟩ | ⟨hok, rfl⟩
  rotate_left
  · rw [Ok6.one] at hok
    have HOK := Lib.hid hok
    clear hok
    go_wp2_with fail
    go_ret2
    exact ⟨hbl1, .inl ⟨HOK.out, rfl⟩⟩
  rw [Ok6.one] at hok
  have HOK := Lib.hid hok
  obtain ⟨hmn, _⟩ := hok
  have hn0 : ¬ n = 0 := by omega
  have c1 := HT.out.cN
  have hmi : (m : Int) = (n : Int) := by omega
  subst hmn
  clear hmi
  go_wp2_with (at_make; refine wpl_make rfl _ _ _ rfl e64 .i64 .i64 _ _ m rfl rfl rfl rfl (by omega) (by unfold maxLen; omega) ?_; intro w3 hr3 hb3 hs3)
  have HR := Lib.hid hr3
  clear hr3
  have hbw1 : w1.heap.size = w.heap.size + 1 := by rw [HW1.out, World.size_alloc]
  have HBW1 := Lib.hid hbw1
  clear hbw1
  go_loopw [25] (fun I wr => ∃ i : Nat, I = .int .i64 (i : Int) ∧ i ≤ m ∧ wr.rowIs w1.heap.size 39 m (ku .u64 fun k => if k < i then a k else 0) ∧ Below w1.heap.size w1 wr) (fun I _ => m - (intOf I).toNat)
  case atStart => exact ⟨0, rfl, Nat.zero_le _, HR.out.congr fun k _ => rfl, hb3⟩
  case round =>
    clear hb3 HR hs3 c1
    obtain ⟨i, rfl, him, hrow, hbl⟩ := hrel
    by_cases hin : i < m
    · obtain ⟨g, off, rfl, _, hgl, hcell⟩ := HA.out.2 (by omega)
      have k1 := (hbl.cell (p := ⟨g, off + i, none⟩) (by show g < _; omega)).trans (hcell i hin)
      have hxq := HOK.out.2 i hin
      obtain ⟨x, e1⟩ : ∃ x, a i = x := ⟨_, rfl⟩
      rw [e1] at k1 hxq
      have k4 := hrow.cell hin
      simp only [ku] at k4
      rw [if_neg (by omega)] at k4
      have f4 := hrow.frozen i
      have HY := Lib.hid e1
      have HROW := Lib.hid hrow
      clear e1 hrow hcell
      go_wp2
      go_roundw
      case rel => exact ⟨i + 1, by go_num, hin, (rowIs_set_ku HROW.out i x).congr fun k _ => by simp only [ku]; rw [row_next (f := a) HY.out], hbl.setCell (p := ⟨w1.heap.size, i, none⟩) (Nat.le_refl _) _⟩
      case measure => simp only [intOf]; omega
    · obtain rfl : m = i := by omega
      have hTr := HT.out.below hbl HT.out.lt
      obtain ⟨j, hj⟩ := HG.out.two
      obtain ⟨w4, hw4⟩ : ∃ w4, w4 = wr := ⟨_, rfl⟩
      subst hw4
      have hx : Sq .u64 w4 0 w4.heap.size (some ⟨w1.heap.size, 0, none⟩) m (fun k => if k < m then a k else 0) := Sq.of_row hrow (Nat.le_refl _) (Nat.zero_le _) hrow.lt (fun k hk => if_neg (by omega)) fun k hk => rfl
      have HCY := Lib.hid (tcycB_any b m q s (ψ ^ (2 * m - 1)) (pwF q m ψ) (by omega) hn32 hq2 hq31 (pwF_le HG.out) (fun k _ => pwF_back HG.out) HG.out.rt.negb j m 1 hj (Nat.one_mul m) (some ⟨w1.heap.size, 0, none⟩) m 0 w4.heap.size _ w4 hTr hx (fun k => by
        split
        · exact HOK.out.2 k (by omega)
        · omega) (Nat.le_refl _))
      have hzr := hbl.size
      have HTR := Lib.hid hTr
      clear hrow hx hj hTr
      go_wp2_with fail
      refine HCY.out.mono ?_
      rintro e w5 ⟨A5, c5, rfl, hown, hs5, hb5⟩
      have hz5 := hb5.size
      rcases hown with ⟨h1, _⟩ | ⟨b5, rfl, hbg, hc5, hr5⟩
      · omega
      have hc5 := hc5.symm
      subst hc5
      have HS5 := Lib.hid hr5
      have hsb := HG.out.sq
      clear hs5 hr5 HCY
      go_wp2_with fail
      go_loopw [43] (fun I wr => ∃ i : Nat, I = .int .i64 (i : Int) ∧ i ≤ m ∧ wr.rowIs b5 39 m (ku .u64 fun k => if k < i then ivs q m ψ s a k else cyF q (ψ ^ (2 * m - 1)) 1 m (fun k => if k < m then a k else 0) k) ∧ Below w4.heap.size w4 wr) (fun I _ => m - (intOf I).toNat)
      case atStart => exact ⟨0, rfl, Nat.zero_le _, HS5.out.congr fun k _ => rfl, hb5⟩
      case round =>
        clear hb5 HS5 hz5
        obtain ⟨i, rfl, him, hrow, hb4⟩ := hrel
        by_cases hin : i < m
        · have k1 := hrow.cell hin
          simp only [ku] at k1
          rw [if_neg (by omega)] at k1
          have hcyc : cyF q (ψ ^ (2 * m - 1)) 1 m (fun k => if k < m then a k else 0) i = cyF q (ψ ^ (2 * m - 1)) 1 m a i := by
            unfold cyF
            rw [sumN_congr m fun k hk => by simp only [if_pos hk]; rfl]
          rw [hcyc] at k1
          have hfin := ivs_cyF (q := q) (n := m) (ψ := ψ) (s := s) (a := a) (by omega) hin
          have hxq : cyF q (ψ ^ (2 * m - 1)) 1 m a i < q := cyF_lt (by omega) i
          obtain ⟨x, e1⟩ : ∃ x, cyF q (ψ ^ (2 * m - 1)) 1 m a i = x := ⟨_, rfl⟩
          rw [e1] at k1 hxq hfin
          have f1 := hrow.frozen i
          have hTr := HTR.out.below hb4 HTR.out.lt
          have k3 := hTr.cQ
          have k5 := hTr.cS
          have hcall := fun (V : World) (hV : Tb V b m q (pwF q m ψ) s) => tback_any b m q i s (pwF q m ψ) V hV (by omega) hn32 (by omega) (pwF_le HG.out)
          rw [pwF_back HG.out] at hcall
          obtain ⟨pw, hpw⟩ : ∃ pw, (ψ ^ (2 * m - 1)) ^ i % q = pw := ⟨_, rfl⟩
          have hpq : pw < q := by rw [← hpw]; exact Nat.mod_lt _ (by omega)
          rw [hpw] at hcall hfin
          have HCALL := Lib.hid (fun d => hcall (wr.drewN d) ⟨hTr.cN, hTr.cQ, hTr.cP, hTr.cS, hTr.lt⟩)
          obtain ⟨mm, hmm⟩ : ∃ mm, x * pw = mm := ⟨_, rfl⟩
          have hmi : (x : Int) * (pw : Int) = (mm : Int) := by rw [← hmm]; simp
          have hmb : mm ≤ 4611686009837453316 := by rw [← hmm]; exact mul_lt_of hxq hpq hq31
          have hxp : 0 ≤ (x : Int) * (pw : Int) ∧ (x : Int) * (pw : Int) ≤ 4611686009837453316 := by rw [hmi]; omega
          obtain ⟨y, hy⟩ : ∃ y, mm % q = y := ⟨_, rfl⟩
          have hyi : (mm : Int) % (q : Int) = (y : Int) := by rw [← hy]; simp
          have hyq : y < q := by rw [← hy]; exact Nat.mod_lt _ (by omega)
          obtain ⟨m2, hm2⟩ : ∃ m2, y * s = m2 := ⟨_, rfl⟩
          have hm2i : (y : Int) * (s : Int) = (m2 : Int) := by rw [← hm2]; simp
          have hm2b : m2 ≤ 4611686009837453316 := by rw [← hm2]; exact mul_lt_of hyq hsb hq31
          obtain ⟨z, hz⟩ : ∃ z, m2 % q = z := ⟨_, rfl⟩
          have hzi : (m2 : Int) % (q : Int) = (z : Int) := by rw [← hz]; simp
          have hzq : z < q := by rw [← hz]; exact Nat.mod_lt _ (by omega)
          have hw1 : (x : Int) * (pw : Int) % (q : Int) = (y : Int) := by rw [hmi, hyi]
          have hw1t : ((x : Int) * (pw : Int)).tmod (q : Int) = (y : Int) := by rw [Int.tmod_eq_emod_of_nonneg (by omega), hw1]
          have hw2 : (y : Int) * (s : Int) % (q : Int) = (z : Int) := by rw [hm2i, hzi]
          have hw2t : ((y : Int) * (s : Int)).tmod (q : Int) = (z : Int) := by rw [Int.tmod_eq_emod_of_nonneg (by omega), hw2]
          have hw3 : (IntKind.u64.wrap ((y : Int) * (s : Int))).tmod (q : Int) = (z : Int) := by rw [hm2i, IntWalk.u64_in _ (by omega), Int.tmod_eq_emod_of_nonneg (by omega), hzi]
          have HY : Hid (ivs q m ψ s a i = z) := Lib.hid (by rw [← hfin, hmm, hy, hm2, hz])
          have hq0 : ¬ q = 0 := by omega
          have HROW := Lib.hid hrow
          clear e1 hrow hcall hpw hmm hy hTr hm2 hz hfin hcyc hmi hyi hm2i hzi
          go_wp2
          refine wp_region_quiet_tail 26 (by kernel_rfl) (by kernel_rfl) ?_
          simp only [List.take_succ_cons, List.take_zero, List.drop_succ_cons, List.drop_zero]
          repeat (go_big_quiet_step ((exact (HCALL.out _).mono fun e w' hh => ⟨hh.1, by obtain ⟨_, d, hd⟩ := hh; exact ⟨_, hd.trans (World.drewN_drewN _ _ _)⟩⟩)))
          refine wpQuiet_nil ?_
          rintro _ ⟨d, rfl⟩
          go_wp2
          all_goals
            go_roundw
            case rel =>
              try rw [hw1]
              try rw [hw2]
              refine ⟨i + 1, by go_num, hin, (rowIs_set_ku (w := wr.drewN d) HROW.out i z).congr fun k _ => ?_, (below_drewN hb4 d).setCell (p := ⟨b5, i, none⟩) hbg _⟩
              simp only [ku]
              congr 2
              by_cases hki : k = i
              · rw [if_pos hki, hki, if_pos (Nat.lt_succ_self i), HY.out]
              · rw [if_neg hki]
                by_cases h2 : k < i
                · rw [if_pos h2, if_pos (by omega)]
                · rw [if_neg h2, if_neg (by omega)]
            case measure => simp only [intOf]; omega
        · obtain rfl : m = i := by omega
          have hs7 : Sq .u64 wr 0 wr.heap.size (some ⟨b5, 0, none⟩) m (ivs q m ψ s a) := Sq.of_row hrow (Nat.le_refl _) (Nat.zero_le _) hrow.lt (fun k hk => ivs_out hk) fun k hk => if_pos hk
          have HS := Lib.hid (short_any (some ⟨b5, 0, none⟩) m m 0 wr.heap.size _ wr hs7 (by omega) (fun k => by
            have := ivs_lt (q := q) (n := m) (ψ := ψ) (s := s) (a := a) (by omega) k
            omega) (Nat.le_refl _))
          have hz7 := hb4.size
          clear hs7 hrow
          go_wp2_with fail
          refine HS.out.mono ?_
          rintro e w6 ⟨b6, rfl, hbg6, hr6, hb6⟩
          go_wp2_with fail
          go_ret2
          have hz1' := hbl1.size
          exact ⟨hbl1.trans ((hbl.trans ((hb4.trans (hb6.mono (by omega))).mono (by omega))).mono (by omega)), .inr ⟨HOK.out, b6, rfl, by omega, hr6⟩⟩

end Go.Proofs.Ytbajapjaejpcjaa
