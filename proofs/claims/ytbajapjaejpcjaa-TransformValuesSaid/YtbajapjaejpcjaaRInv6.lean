/- The contract of the reference's Inverse of layer 6. -/
import Derived.Test.YtbajapjaejpcjaaRFwd6
import Derived.Test.YtbajapjaejpcjaaRInv
namespace Go.Proofs.Ytbajapjaejpcjaa
open Go.RowKit
set_option linter.unusedVariables false

theorem rinv_quiet (n q s : Nat) (w : World) (d : Nat) (hnq : n < q) (hq2 : 2 ≤ q) (hq : q ≤ 2147483647) (hgc : Nat.gcd q n = 1) (hs : invN n q = s) :
    Calls Try.prog 32 #[.int .u32 n, .int .u32 q] (w.drewN d) fun e w'' => e = .returned (.tuple #[.int .u32 (s : Int), .bool true]) ∧ ∃ m, w'' = w.drewN m := by
  refine (rinverse_any n q (w.drewN d) hnq hq2 hq).mono fun e w' hh => ?_
  obtain ⟨hw, hh⟩ := hh
  rcases hh with ⟨_, hh⟩ | ⟨hh, _⟩
  · rw [hs] at hh
    exact ⟨hh, d, hw.symm⟩
  · exact absurd hgc hh

set_option maxRecDepth 100000 in
set_option maxHeartbeats 4000000 in
theorem rinverse6_any (b n q ψ s m c lo hi : Nat) (A : Option Addr) (a : Nat → Nat) (w : World) (ht : Rb w b n q ψ) (hn2 : 2 ≤ n) (hn : n ≤ 32) (hq2 : 2 ≤ q) (hq : q ≤ 2147483647) (hψ : ψ < q) (ha : Sq .u32 w lo hi A m a) (hm : m ≤ 9223372036854775807) (hab : ∀ i, a i ≤ 4294967295) (hhi : hi ≤ w.heap.size) (hgc : Nat.gcd q n = 1) (hs : invN n q = s) (hnq : n < q) :
    Calls Try.prog 18 #[.pointer (some ⟨b, 0, none⟩), .slice A m c] w (RetRL w (Okl n q m a) n (ivs q n ψ s a)) := by
  have HV := Lib.hid (rvalid_any b n q ψ m c lo hi A a w ht hn hq ha hm hab hhi)
  have HT := Lib.hid ht
  have HA := Lib.hid ha
  have HGC := Lib.hid hgc
  have HS := Lib.hid hs
  have hsq : s < q := by rw [← hs]; exact (invN_spec hnq hq2 hgc).1
  have hnqi : (n : Int) % (q : Int) = (n : Int) := Int.emod_eq_of_lt (by omega) (by omega)
  have hnqt : (n : Int).tmod (q : Int) = (n : Int) := by rw [Int.tmod_eq_emod_of_nonneg (by omega), hnqi]
  have hq00 : ¬ q = 0 := by omega
  clear hgc hs
  clear ht ha hab
  go_enter Try.func18, Try.ntmps18
  go_wp2_with fail
  (with_reducible refine HV.out.mono ?_)
  rintro e w1 ⟨hb1, hh⟩
  have hz1 := hb1.size
  rcases hh with ⟨hok, rfl⟩ | ⟨hok, rfl⟩
  rotate_left
  · have HOK := Lib.hid hok
    clear hok
    go_wp2_with fail
    go_ret2
    exact ⟨hb1, .inl ⟨HOK.out, rfl⟩⟩
  have HOK := Lib.hid hok
  clear hok
  have hT1 := HT.out.below hb1 HT.out.lt
  have c1 := hT1.cN
  have c2 := hT1.cQ
  have HI := Lib.hid (fun d => rinv_quiet n q s w1 d hnq hq2 hq HGC.out HS.out)
  go_wp2
  go_quiet ((exact HI.out _))
  go_wp2
  clear c1 c2 HI hnqi hnqt
  have hb1' := below_drewN hb1 nq
  have hT1' : Rb (w1.drewN nq) b n q ψ := ⟨hT1.cN, hT1.cQ, hT1.cP, hT1.lt⟩
  generalize w1.drewN nq = w1' at hb1' hT1' ⊢
  clear hT1 hb1 hz1
  have hb1 := hb1'
  have hT1 := hT1'
  have hz1 := hb1.size
  obtain ⟨w1, hw1e⟩ : ∃ w1, w1 = w1' := ⟨_, rfl⟩
  subst hw1e
  clear hb1' hT1'
  have HT1 := Lib.hid hT1
  clear hT1
  go_loopw [8, 9] (fun O J wr => ∃ (j : Nat) (A' : Option Addr) (c' : Nat), j ≤ n ∧ J = .int .i64 (j : Int) ∧ O = .slice A' j c' ∧ Own .u32 wr w1.heap.size 22 A' j c' (trF j (ivs q n ψ s a)) ∧ Below w1.heap.size w1 wr) (fun _ J _ => n - (intOf J).toNat)
  case atStart => exact ⟨0, none, 0, Nat.zero_le _, rfl, rfl, Own.congr (Own.nil _ _ _ _) (fun j => (trF_out (Nat.zero_le _)).symm), Below.refl _ _⟩
  case round =>
    obtain ⟨j, A', c', hjn, rfl, rfl, hown, hbl⟩ := hrel
    have hTr := HT1.out.below hbl HT1.out.lt
    have c1 := hTr.cN
    have HOWN := Lib.hid hown
    have HTR := Lib.hid hTr
    clear hown hTr
    by_cases hjl : j < n
    · have q1 : decide ((j : Int) < (n : Int)) = true := decide_eq_true (by omega)
      go_wp2
      obtain ⟨w2, hw2⟩ : ∃ w2, w2 = wr := ⟨_, rfl⟩
      subst hw2
      go_loopw [10, 11] (fun S I wr => ∃ i v : Nat, I = .int .i64 (i : Int) ∧ i ≤ n ∧ S = .int .u64 (v : Int) ∧ v < q ∧ sumN (fun i => a i * ψ ^ ((2 * n - 1) * j * (2 * i + 1))) i % q = v ∧ Below w2.heap.size w2 wr) (fun _ I _ => n - (intOf I).toNat)
      case atStart => exact ⟨0, 0, rfl, Nat.zero_le _, rfl, by omega, Nat.zero_mod q, Below.refl _ _⟩
      case round =>
        clear c1
        obtain ⟨i, v, rfl, hin, rfl, hvq, hsum, hb2⟩ := hrel
        have hTr := HTR.out.below hb2 HTR.out.lt
        have c1 := hTr.cN
        have c2 := hTr.cQ
        have c3 := hTr.cP
        have HSUM := Lib.hid hsum
        clear hsum hTr
        by_cases hil : i < n
        · have q2 : decide ((i : Int) < (n : Int)) = true := decide_eq_true (by omega)
          obtain ⟨g, off, hAe, _, hg, hcell⟩ := HA.out.2 (by have := HOK.out.1; omega)
          have hb02 : Below w.heap.size w wr := hb1.trans ((hbl.trans (hb2.mono hbl.size)).mono hz1)
          have k1 := (hb02.cell (p := ⟨g, off + i, none⟩) (by show g < _; omega)).trans (hcell i (by have := HOK.out.1; omega))
          have hxq := HOK.out.2 i hil
          obtain ⟨x, hx⟩ : ∃ x, a i = x := ⟨_, rfl⟩
          rw [hx] at k1 hxq
          rw [hAe]
          have him : i < m := by have := HOK.out.1; omega
          obtain ⟨e1, he1⟩ : ∃ e1, (2 * n - 1) * j = e1 := ⟨_, rfl⟩
          have he1i : (2 * (n : Int) - 1) * (j : Int) = (e1 : Int) := by rw [← he1, Int.natCast_mul, Int.ofNat_sub (by omega)]; simp
          have he1b : e1 ≤ 2016 := by rw [← he1]; exact Nat.mul_le_mul (show 2 * n - 1 ≤ 63 by omega) (show j ≤ 32 by omega)
          obtain ⟨ex, hex⟩ : ∃ ex, e1 * (2 * i + 1) = ex := ⟨_, rfl⟩
          have hexi : (e1 : Int) * (2 * (i : Int) + 1) = (ex : Int) := by rw [← hex]; simp
          have hexb : ex ≤ 131040 := by rw [← hex]; exact Nat.mul_le_mul he1b (show 2 * i + 1 ≤ 65 by omega)
          obtain ⟨pw, hpw⟩ : ∃ pw, ψ ^ ex % q = pw := ⟨_, rfl⟩
          have hpq : pw < q := by rw [← hpw]; exact Nat.mod_lt _ (by omega)
          have HCALL := Lib.hid (fun d => (by
            have := rpow6_any ψ ex q (wr.drewN d) (by omega) (by omega) hq2 hq
            rw [hpw] at this
            exact this : Calls Try.prog 31 #[.int .u64 ψ, .int .u64 ex, .int .u64 q] (wr.drewN d) (RetP (wr.drewN d) (.int .u64 (pw : Int)))))
          obtain ⟨mm, hmm⟩ : ∃ mm, x * pw = mm := ⟨_, rfl⟩
          have hmi : (x : Int) * (pw : Int) = (mm : Int) := by rw [← hmm]; simp
          have hmb : mm ≤ 4611686009837453316 := by rw [← hmm]; exact mul_lt_of hxq hpq hq
          obtain ⟨v2, hv2⟩ : ∃ v2, (v + mm) % q = v2 := ⟨_, rfl⟩
          have hv2i : ((v : Int) + (mm : Int)) % (q : Int) = (v2 : Int) := by rw [← hv2]; simp
          have hv2t : ((v : Int) + (mm : Int)).tmod (q : Int) = (v2 : Int) := by rw [Int.tmod_eq_emod_of_nonneg (by omega), hv2i]
          have hv2q : v2 < q := by rw [← hv2]; exact Nat.mod_lt _ (by omega)
          have hnx : sumN (fun i => a i * ψ ^ ((2 * n - 1) * j * (2 * i + 1))) (i + 1) % q = v2 := by
            show (sumN _ i + a i * ψ ^ ((2 * n - 1) * j * (2 * i + 1))) % q = v2
            rw [Nat.add_mod, HSUM.out, hx, he1, hex, ← hv2, ← hmm, ← hpw]
            rw [Nat.add_mod_mod, ← Nat.add_mod_mod v (x * (ψ ^ ex % q)), Nat.mul_mod_mod, Nat.add_mod_mod]
          have HNX := Lib.hid hnx
          have hq0 : ¬ q = 0 := by omega
          clear hcell hx hex he1 hpw hmm hv2 hnx hAe hb02
          go_wp2
          go_quiet ((exact (HCALL.out _).mono fun e w' hh => ⟨hh.1, _, hh.2.symm⟩))
          go_wp2
          go_roundw
          case rel => exact ⟨i + 1, v2, by go_num, hil, rfl, hv2q, HNX.out, below_drewN hb2 _⟩
          case measure => simp only [intOf]; omega
        · obtain rfl : n = i := by omega
          have q2 : decide ((n : Int) < (n : Int)) = false := decide_eq_false (by omega)
          have hz2 := hbl.size
          have hb12 := hbl.trans (hb2.mono hz2)
          have hz12 := hb12.size
          have hown2 := HOWN.out.below hb2 (Nat.le_refl _)
          have HO2 := Lib.hid hown2
          clear hown2
          obtain ⟨mm, hmm⟩ : ∃ mm, v * s = mm := ⟨_, rfl⟩
          have hmi : (v : Int) * (s : Int) = (mm : Int) := by rw [← hmm]; simp
          have hmb : mm ≤ 4611686009837453316 := by rw [← hmm]; exact mul_lt_of hvq hsq hq
          obtain ⟨z, hz⟩ : ∃ z, mm % q = z := ⟨_, rfl⟩
          have hzi : (mm : Int) % (q : Int) = (z : Int) := by rw [← hz]; simp
          have hzt : (mm : Int).tmod (q : Int) = (z : Int) := by rw [Int.tmod_eq_emod_of_nonneg (by omega), hzi]
          have hzq : z < q := by rw [← hz]; exact Nat.mod_lt _ (by omega)
          have HF : Hid (ivs q n ψ s a j = z) := Lib.hid (by unfold ivs; rw [if_pos hjl, HSUM.out, hmm, hz])
          have hvv : Value.int .u32 (z : Int) = .int .u32 (((ivs q n ψ s a) j : Nat) : Int) := by rw [HF.out]
          have hq0 : ¬ q = 0 := by omega
          clear hmm hz
          have HVV := Lib.hid hvv
          clear hvv
          go_wp2_with (at_builtin; refine wpl_append rfl _ _ _ rfl e32 rfl (HO2.out.alloc _) rfl (sq_one (x := (ivs q n ψ s a) j) (lo := 0) (hi := wr.heap.size + 1) HVV.out (Nat.zero_le _) (Nat.lt_succ_self _)) (trF (j + 1) (ivs q n ψ s a)) (fun j hj => trF_lt hj) trF_add (by unfold maxLen; omega) (by omega) (by simp; omega) ?_; intro A2 c2 w3 hown3 hg3 hb3 hat3)
          go_roundw
          case rel => exact ⟨j + 1, A2, c2, by omega, by go_num, rfl, hown3, (hb12.alloc hz12 _).trans hb3⟩
          case measure => simp [intOf]; omega
    · obtain rfl : n = j := by omega
      have q1 : decide ((n : Int) < (n : Int)) = false := decide_eq_false (by omega)
      have hown := HOWN.out
      rw [trF_all fun j hj => ivs_out hj] at hown
      have HO := Lib.hid hown
      clear hown
      go_wp2
      go_ret2
      exact ⟨hb1.trans (hbl.mono hz1), .inr ⟨HOK.out, A', c', rfl, HO.out.le, (HO.out.sq (Nat.le_refl _)).wide hz1 (Nat.le_refl _)⟩⟩
end Go.Proofs.Ytbajapjaejpcjaa
