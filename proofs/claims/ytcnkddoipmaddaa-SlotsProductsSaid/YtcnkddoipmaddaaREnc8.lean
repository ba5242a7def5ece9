/- The contract of the reference's Encode. -/
import Derived.Test.YtcnkddoipmaddaaRDec8
import Derived.Test.YtcnkddoipmaddaaEnc8
import Derived.Test.YtcnkddoipmaddaaRInv
namespace Go.Proofs.Ytcnkddoipmaddaa
open Go.RowKit
set_option linter.unusedVariables false

theorem wrap64_eq {z : Int} (h1 : -9223372036854775808 ≤ z) (h2 : z ≤ 9223372036854775807) : wrap64 z = z := by
  have := IntWalk.wrap64_in z (by omega)
  exact this
/-- the sums so far: k slots and, up to place i, one more -/
def PS (q n x : Nat) (a f : Nat → Int) (k i : Nat) : Prop := ∀ t, t < n → -(q : Int) < f t ∧ f t < (q : Int) ∧ Cg q (f t) (zsum (fun j => a j * (x : Int) ^ (t * (2 * n - exN n j))) (if t < i then k + 1 else k))
set_option maxRecDepth 100000 in
set_option maxHeartbeats 4000000 in
theorem rencode_any (l b n p R x m c lo hi : Nat) (E : Int) (A : Option Addr) (a : Nat → Int) (w : World) (hg : G8 n p R x) (hs : Rz w l b n p R x) (ha : Z.Sq .i64 w lo hi A m a) (hm : m ≤ 9223372036854775807) (hhi : hi ≤ w.heap.size) :
    Calls Try.prog 18 #[.pointer (some ⟨b, 0, none⟩), .slice A m c, .int .i64 E] w (RetDc w (VOk n p R m a E) n (encF (p ^ E.toNat) n x (invN n (p ^ E.toNat)) a)) := by
  obtain ⟨hn4, hn32⟩ := hg.nb
  have HG := Lib.hid hg
  have HS := Lib.hid hs
  have HA := Lib.hid ha
  have HC := Lib.hid (rvalid_any l b n p R x m c lo hi E A a w hs (by omega) hn32 (by have := hg.R7; omega) hg.p3 hg.p6 hg.odd hg.pR ha hm)
  clear hg hs ha
  go_enter Try.func18, Try.ntmps18
  go_wp2_with fail
  (with_reducible refine HC.out.mono ?_)
  rintro e w1 ⟨hw1, hh⟩
  subst hw1
  rcases hh with ⟨hok, rfl⟩ | ⟨hok, rfl⟩
  rotate_left
  · have HOK := Lib.hid hok
    clear hok
    go_wp2_with fail
    go_ret2
    exact ⟨Below.refl _ _, .inl ⟨HOK.out, rfl⟩⟩
  have HOK := Lib.hid hok
  obtain ⟨hE1, hE2, rfl, hbl⟩ := hok
  obtain ⟨e, rfl⟩ : ∃ e : Nat, E = (e : Int) := ⟨E.toNat, by omega⟩
  have he1 : 1 ≤ e := by omega
  have he2 : e ≤ R := by omega
  obtain ⟨hq3, hq31, hqo⟩ := HG.out.pe he1 he2
  have hxb := HG.out.xb
  have hpR := HG.out.pR
  have hxb2 : x ≤ 2147483647 := by omega
  have HM := Lib.hid (rmod8_any b p e w HS.out.cP (by have := HG.out.p3; omega) HG.out.p6 (by have := HG.out.R7; omega) hq31)
  obtain ⟨q, hq⟩ : ∃ q, p ^ e = q := ⟨_, rfl⟩
  rw [hq] at HM hq3 hq31 hqo
  have HQ : Hid (p ^ (e : Int).toNat = q) := Lib.hid (by rw [Int.toNat_natCast, hq])
  rw [Int.toNat_natCast, hq] at hbl
  have HBL := Lib.hid hbl
  obtain ⟨hsh1, hsh2, hsh3, hsh4⟩ := inv_share HG.out he1
  rw [hq] at hsh1 hsh2 hsh3 hsh4
  obtain ⟨sh, hsh⟩ : ∃ sh, invN m q = sh := ⟨_, rfl⟩
  have HINV : Hid (Calls Try.prog 36 #[.int .u32 (m : Int), .int .u32 (q : Int)] w (RetP w (.tuple #[.int .u32 (sh : Int), .bool true]))) := Lib.hid ((rinverse_any m q w hsh4 (by omega) hq31).mono fun e w' hh => by
    rcases hh.2 with ⟨_, h2⟩ | ⟨h2, _⟩
    · exact ⟨by rw [h2, hsh], hh.1⟩
    · exact absurd hsh3 h2)
  rw [hsh] at hsh1 hsh2
  have HSH := Lib.hid hsh
  have hni : (m : Int) % (q : Int) = (m : Int) := Int.emod_eq_of_lt (by omega) (by omega)
  have hnt : (m : Int).tmod (q : Int) = (m : Int) := by rw [Int.tmod_eq_emod_of_nonneg (by omega), hni]
  have hq0 : ¬ q = 0 := by omega
  have k0 := HS.out.cN
  clear hbl hE1 hE2 hq hxb hpR hsh hsh2 hsh3
  go_wp2_with (first | (go_at_call 35; refine HM.out.mono ?_; rintro e w' ⟨rfl, hw⟩; subst hw) | (go_at_call 36; refine HINV.out.mono ?_; rintro e w' ⟨rfl, hw⟩; subst hw) | (at_make; refine Z.wpl_make rfl _ _ _ rfl e64s .i64 .i64 _ _ m rfl rfl rfl rfl (by omega) (by unfold maxLen; omega) ?_; intro w1 hr1 hb1 hs1))
  have HR := Lib.hid hr1
  clear hr1 k0 hni hnt
  go_loopw [12] (fun J wr => ∃ (j : Nat) (f : Nat → Int), J = .int .i64 (j : Int) ∧ j ≤ m ∧ wr.rowIs w.heap.size 2 m (Z.ku .i64 f) ∧ PS q m x a f j 0 ∧ Below w.heap.size w wr) (fun J _ => m - (intOf J).toNat)
  case atStart => exact ⟨0, fun _ => 0, rfl, Nat.zero_le _, HR.out, fun t ht => ⟨by show -(q : Int) < 0; omega, by show (0 : Int) < (q : Int); omega, by rw [if_neg (by omega)]; exact Cg.refl _ _⟩, hb1⟩
  case round =>
    obtain ⟨j, f, rfl, hj, hrow, hps, hbl⟩ := hrel
    have hzr := hbl.size
    have HROW := Lib.hid hrow
    have HPS := Lib.hid hps
    have HBE := Lib.hid hbl
    clear hrow hps
    have hsr := HS.out.below hbl (Nat.le_refl _)
    have k0 := hsr.cN
    by_cases hjn : j < m
    · have e1 : decide ((j : Int) < (m : Int)) = true := decide_eq_true (by omega)
      obtain ⟨x3, hex⟩ : ∃ E, exN m j = E := ⟨_, rfl⟩
      have hEb : x3 < 2 * m ∧ 1 ≤ x3 := by have := ex_fact HG.out.dim j hjn; omega
      have HEXP := Lib.hid (fun d => rexp_any b m j (wr.drewN d) k0 hn4 hn32 hjn)
      rw [hex] at HEXP
      have HEX := Lib.hid hex
      obtain ⟨x4, hx4⟩ : ∃ x4, 2 * m - x3 = x4 := ⟨_, rfl⟩
      have hx4i : 2 * (m : Int) - (x3 : Int) = (x4 : Int) := by omega
      have HZ := Lib.hid (fun d => rzeta_any b m x x4 q (wr.drewN d) hsr.cN hsr.cX hn4 hn32 (by omega) hxb2 (by omega) hq31)
      rw [Nat.mod_eq_of_lt (show x4 < 2 * m by omega)] at HZ
      obtain ⟨pl, hpl⟩ : ∃ pl, x ^ x4 % q = pl := ⟨_, rfl⟩
      have hplb : pl < q := by rw [← hpl]; exact Nat.mod_lt _ (by omega)
      rw [hpl] at HZ
      have HPL : Hid (Cg q (pl : Int) ((x : Int) ^ x4)) := Lib.hid (by rw [← hpl]; exact Cg.powN x x4)
      have HX4 := Lib.hid hx4
      clear hbl hex hpl hsr hx4
      go_wp2
      go_quiet ((first | exact (HEXP.out _).mono fun e w' hh => ⟨hh.1, by obtain ⟨_, d, hd⟩ := hh; exact ⟨_, hd.trans (World.drewN_drewN _ _ _)⟩⟩ | exact (HZ.out _).mono fun e w' hh => ⟨hh.1, _, hh.2.symm⟩))
      go_wp2
      go_loopw [14, 15] (fun P I wr2 => ∃ (i pw : Nat) (f : Nat → Int), P = .int .i64 (pw : Int) ∧ I = .int .i64 (i : Int) ∧ i ≤ m ∧ pw < q ∧ Cg q (pw : Int) ((x : Int) ^ (i * x4)) ∧ wr2.rowIs w.heap.size 2 m (Z.ku .i64 f) ∧ PS q m x a f j i ∧ Below w.heap.size w wr2) (fun _ I _ => m - (intOf I).toNat)
      case atStart => exact ⟨0, 1, f, rfl, rfl, Nat.zero_le _, by omega, Cg.of_eq (by simp), HROW.out, HPS.out, below_drewN HBE.out _⟩
      case round =>
        clear HROW HPS HEXP HZ HBE
        rename_i wr0 _
        obtain ⟨i, pw, f, rfl, rfl, him, hpw, hcp, hrow, hps, hbl⟩ := hrel
        have HROW := Lib.hid hrow
        have HPS := Lib.hid hps
        have HBE := Lib.hid hbl
        have hsr := HS.out.below hbl (Nat.le_refl _)
        have k0 := hsr.cN
        clear hrow hps hsr
        by_cases hin : i < m
        · have e2 : decide ((i : Int) < (m : Int)) = true := decide_eq_true (by omega)
          obtain ⟨gg, off, hAe, _, hgl, hcell⟩ := (HA.out.below HBE.out hhi).2 (by omega)
          have ka := hcell j hjn
          have hyb := HBL.out j hjn
          obtain ⟨y, hy⟩ : ∃ y, a j = y := ⟨_, rfl⟩
          rw [hy] at ka hyb
          have kf := HROW.out.cell hin
          have ff := HROW.out.frozen i
          obtain ⟨hs1, hs2, hcg⟩ := HPS.out i hin
          rw [if_neg (by omega)] at hcg
          simp only [Z.ku] at kf
          obtain ⟨s, hs⟩ : ∃ s, f i = s := ⟨_, rfl⟩
          rw [hs] at kf hs1 hs2 hcg
          obtain ⟨mm, hmm⟩ : ∃ mm, y * (pw : Int) = mm := ⟨_, rfl⟩
          have hmb := bal_mul hq31 hyb hpw
          rw [hmm] at hmb
          obtain ⟨t, ht, ht1, ht2, ht3⟩ := tm_fact (s + mm) (m := q) (by omega)
          obtain ⟨m2, hm2⟩ : ∃ m2, pw * pl = m2 := ⟨_, rfl⟩
          have hm2i : (pw : Int) * (pl : Int) = (m2 : Int) := by rw [← hm2]; simp
          have hm2b : m2 ≤ 4611686009837453316 := by rw [← hm2]; exact mul_lt_of hpw hplb hq31
          obtain ⟨p2, hp2⟩ : ∃ p2, m2 % q = p2 := ⟨_, rfl⟩
          have hp2i : (m2 : Int) % (q : Int) = (p2 : Int) := by rw [← hp2]; simp
          have hp2t : (m2 : Int).tmod (q : Int) = (p2 : Int) := by rw [Int.tmod_eq_emod_of_nonneg (by omega), hp2i]
          have hp2q : p2 < q := by rw [← hp2]; exact Nat.mod_lt _ (by omega)
          have HNX : Hid (Cg q (p2 : Int) ((x : Int) ^ ((i + 1) * x4)) ∧ PS q m x a (fun k => if k = i then t else f k) j (i + 1)) := Lib.hid (by
            refine ⟨?_, fun k hk => ?_⟩
            · rw [← hp2]
              refine (Cg.modN _).trans ?_
              rw [← hm2, Int.natCast_mul, Nat.succ_mul, Int.pow_add]
              exact hcp.mul HPL.out
            · by_cases hki : k = i
              · subst hki
                dsimp only
                rw [if_pos rfl, if_pos (Nat.lt_succ_self k)]
                refine ⟨ht1, ht2, ht3.trans ?_⟩
                rw [← hmm, ← hy]
                refine hcg.add ((Cg.refl q (a j)).mul ?_)
                rw [HEX.out, HX4.out]
                exact hcp
              · have h5 := HPS.out k hk
                dsimp only
                rw [if_neg hki]
                by_cases h6 : k < i
                · rw [if_pos h6] at h5
                  rw [if_pos (by omega)]
                  exact h5
                · rw [if_neg h6] at h5
                  rw [if_neg (by omega)]
                  exact h5)
          rw [hAe]
          have bi1 : 0 ≤ (i : Int) := by omega
          have bj1 : 0 ≤ (j : Int) := by omega
          have hgne : gg < w.heap.size := by omega
          have hw64 : (wrap64 (s + wrap64 (y * (pw : Int)))).tmod (q : Int) = t := by rw [hmm, wrap64_eq (z := mm) (by omega) (by omega), wrap64_eq (z := s + mm) (by omega) (by omega), ht]
          clear hcell hy hcg hcp ht3 hm2 hp2 hAe hyb hs
          go_wp2
          refine wp_region_quiet_tail 16 (by kernel_rfl) (by kernel_rfl) ?_
          simp only [List.take_succ_cons, List.take_zero, List.drop_succ_cons, List.drop_zero]
          repeat (go_big_quiet_step (fail))
          refine wpQuiet_nil ?_
          rintro _ ⟨d2, rfl⟩
          go_wp2
          all_goals go_roundw
          case rel => exact ⟨i + 1, p2, _, rfl, by go_num, hin, hp2q, HNX.out.1, Z.rowIs_set_ku (w := wr.drewN d2) HROW.out i t, HNX.out.2, (below_drewN HBE.out d2).setCell (p := ⟨w.heap.size, i, none⟩) (Nat.le_refl _) _⟩
          case measure => simp only [intOf]; omega
        · obtain rfl : m = i := by omega
          have e2 : decide ((m : Int) < (m : Int)) = false := decide_eq_false (by omega)
          have HNX : Hid (PS q m x a f (j + 1) 0) := Lib.hid fun k hk => by
            have h5 := HPS.out k hk
            rw [if_pos hk] at h5
            rw [if_neg (by omega)]
            exact h5
          clear hcp
          go_wp2
          go_roundw
          case rel => exact ⟨j + 1, f, by go_num, hjn, HROW.out, HNX.out, HBE.out⟩
          case measure => simp only [intOf]; omega
    · obtain rfl : m = j := by omega
      have e1 : decide ((m : Int) < (m : Int)) = false := decide_eq_false (by omega)
      clear hbl
      go_wp2
      go_loopw [16, 17] (fun O J wr2 => ∃ (j : Nat) (A2 : Option Addr) (c2 : Nat), j ≤ m ∧ J = .int .i64 (j : Int) ∧ O = .slice A2 j c2 ∧ Z.Own .i64 wr2 wr.heap.size 2 A2 j c2 (trZ j (encF q m x sh a)) ∧ Below wr.heap.size wr wr2) (fun _ J _ => m - (intOf J).toNat)
      case atStart => exact ⟨0, none, 0, Nat.zero_le _, rfl, rfl, Z.Own.congr (Z.Own.nil _ _ _ _) (fun j => (if_neg (by omega)).symm), Below.refl _ _⟩
      case round =>
        obtain ⟨i, A2, c2, him, rfl, rfl, hown, hbl2⟩ := hrel
        have hz2 := hbl2.size
        have HOWN := Lib.hid hown
        have HBE2 := Lib.hid hbl2
        have k0 := (HS.out.below (HBE.out.trans (hbl2.mono hzr)) (Nat.le_refl _)).cN
        clear hown
        by_cases hin : i < m
        · have e2 : decide ((i : Int) < (m : Int)) = true := decide_eq_true (by omega)
          have kf := (below_c (i := i) hbl2 HROW.out.lt).trans (HROW.out.cell hin)
          obtain ⟨hs1, hs2, hcg⟩ := HPS.out i hin
          rw [if_neg (by omega)] at hcg
          simp only [Z.ku] at kf
          obtain ⟨s, hs⟩ : ∃ s, f i = s := ⟨_, rfl⟩
          rw [hs] at kf hs1 hs2 hcg
          obtain ⟨mm, hmm⟩ : ∃ mm, s * (sh : Int) = mm := ⟨_, rfl⟩
          have hmb : -4611686018427387904 ≤ mm ∧ mm ≤ 4611686018427387904 := by
            have h1 : s * (sh : Int) ≤ 2147483647 * (sh : Int) := Int.mul_le_mul_of_nonneg_right (by omega) (by omega)
            have h2 : -2147483647 * (sh : Int) ≤ s * (sh : Int) := Int.mul_le_mul_of_nonneg_right (by omega) (by omega)
            omega
          obtain ⟨t, ht, ht1, ht2, ht3⟩ := tm_fact mm (m := q) (by omega)
          have hbv : bal q t = encF q m x sh a i := by
            unfold encF encZ
            rw [if_pos hin]
            refine bal_congr (ht3.trans ?_)
            rw [← hmm]
            exact hcg.mul (Cg.refl q _)
          have HBA := Lib.hid (fun wq => by have := rbal8_any t q wq hq3 hq31 hqo; rw [hbv] at this; exact this)
          obtain ⟨v, hv⟩ : ∃ v, encF q m x sh a i = v := ⟨_, rfl⟩
          rw [hv] at HBA
          have HV : Hid (Value.int .i64 v = .int .i64 (encF q m x sh a i)) := Lib.hid (by rw [hv])
          have bi1 : 0 ≤ (i : Int) := by omega
          clear hcg hbv hv ht3 hs hbl2
          go_wp2_with (first | (go_at_call 22; refine (HBA.out _).mono ?_; rintro e w' ⟨rfl, hw⟩; subst hw) | (at_builtin; refine Z.wpl_append rfl _ _ _ rfl e64s rfl (HOWN.out.alloc _) rfl (Z.sq_one (x := encF q m x sh a i) (lo := 0) HV.out (Nat.zero_le _) (Nat.lt_succ_self _)) (trZ (i + 1) (encF q m x sh a)) (fun k hk => trZ_lt hk) trZ_add (by unfold maxLen; omega) (by omega) (by simp; omega) ?_; intro A3 c3 w3 hown3 hg3 hb3 hat3))
          go_roundw
          case rel => exact ⟨i + 1, A3, c3, hin, by go_num, rfl, hown3, (HBE2.out.alloc hz2 _).trans hb3⟩
          case measure => simp only [intOf]; omega
        · obtain rfl : m = i := by omega
          have e2 : decide ((m : Int) < (m : Int)) = false := decide_eq_false (by omega)
          have HO := Lib.hid (Z.Own.congr (g := encF q m x sh a) HOWN.out fun k => by
            unfold trZ
            split
            · rfl
            · unfold encF; rw [if_neg (by omega)])
          clear hbl2
          go_wp2
          go_ret2
          exact ⟨HBE.out.trans (HBE2.out.mono hzr), .inr ⟨HOK.out, A2, c2, rfl, by rw [HQ.out, HSH.out]; exact HO.out.sq hzr⟩⟩
end Go.Proofs.Ytcnkddoipmaddaa
