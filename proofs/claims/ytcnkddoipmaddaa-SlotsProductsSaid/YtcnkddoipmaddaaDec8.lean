/- The contract of Decode. -/
import Derived.Test.YtcnkddoipmaddaaChk8
import Derived.Test.YtcnkddoipmaddaaFRoot7
namespace Go.Proofs.Ytcnkddoipmaddaa
open Go.RowKit
set_option linter.unusedVariables false

/-- what Decode and Encode leave -/
def RetDc (w : World) (C : Prop) (n : Nat) (F : Nat → Int) (e : Ending) (w' : World) : Prop :=
  Below w.heap.size w w' ∧ ((¬ C ∧ e = .returned (.tuple #[.slice none 0 0, .int .i64 2])) ∨
    (C ∧ ∃ A c, e = .returned (.tuple #[.slice A n c, .int .i64 0]) ∧ Z.Sq .i64 w' w.heap.size w'.heap.size A n F))
/-- the slots' numbers fit together -/
structure G8 (n p R x : Nat) : Prop where
  dim : dim8 n
  p3 : 3 ≤ p
  p6 : p ≤ 65535
  odd : p % 2 = 1
  R1 : 1 ≤ R
  R7 : R ≤ 7
  pR : p ^ R ≤ 2147483647
  xb : x < p ^ R
  zr : Zr p n R x
  np : n < p
theorem G8.nb {n p R x : Nat} (h : G8 n p R x) : 4 ≤ n ∧ n ≤ 32 := by have := h.dim; unfold dim8 at this; omega
theorem G8.pe {n p R x e : Nat} (h : G8 n p R x) (h1 : 1 ≤ e) (h2 : e ≤ R) : 3 ≤ p ^ e ∧ p ^ e ≤ 2147483647 ∧ p ^ e % 2 = 1 := by
  have h3 := h.p3
  have h4 := h.pR
  have h5 := Nat.pow_le_pow_right (show 0 < p by omega) h2
  have h6 := Nat.pow_le_pow_right (show 0 < p by omega) h1
  rw [Nat.pow_one] at h6
  exact ⟨by omega, by omega, by rw [Nat.pow_mod, h.odd, Nat.one_pow]⟩
/-- a power of the root out of the table -/
theorem pow_tab {n p R x e k : Nat} (h : G8 n p R x) (h1 : 1 ≤ e) (h2 : e ≤ R) : Cg (p ^ e) (((x ^ (k % (2 * n)) % p ^ R) % p ^ e : Nat) : Int) ((x : Int) ^ k) := by
  refine (Cg.modN _).trans (Cg.trans (cg_down h2 (Cg.modN _)) ?_)
  rw [Int.natCast_pow]
  exact (h.zr.down h1 h2).per (Nat.mod_mod k (2 * n))

set_option maxRecDepth 100000 in
set_option maxHeartbeats 4000000 in
theorem decode_any (l b n p R x m c lo hi : Nat) (E : Int) (A : Option Addr) (a : Nat → Int) (w : World) (hg : G8 n p R x) (hs : Sl w l b n p R x) (ha : Z.Sq .i64 w lo hi A m a) (hm : m ≤ 9223372036854775807) (hhi : hi ≤ w.heap.size) :
    Calls Try.prog 16 #[.pointer (some ⟨b, 0, none⟩), .slice A m c, .int .i64 E] w (RetDc w (VOk n p R m a E) n (decF (p ^ E.toNat) n x a)) := by
  obtain ⟨hn4, hn32⟩ := hg.nb
  have HG := Lib.hid hg
  have HS := Lib.hid hs
  have HA := Lib.hid ha
  have HC := Lib.hid (check_any l b n p R x m c lo hi E A a w hs (by omega) hn32 (by have := hg.R7; omega) (by have := hg.p3; omega) hg.pR ha hm)
  clear hg hs ha
  go_enter Try.func16, Try.ntmps16
  go_wp2_with fail
  (with_reducible refine HC.out.mono ?_)
  rintro e w1 ⟨hw1, hh⟩
  subst hw1
  rcases hh with ⟨hok, rfl⟩ | ⟨hok, rfl⟩
  rotate_left
  · have HOK := Lib.hid hok
    clear hok
    go_wp2_with fail
    go_ret2
    exact ⟨Below.refl _ _, .inl ⟨HOK.out, rfl⟩⟩
  have HOK := Lib.hid hok
  obtain ⟨hE1, hE2, rfl, hbl⟩ := hok
  obtain ⟨e, rfl⟩ : ∃ e : Nat, E = (e : Int) := ⟨E.toNat, by omega⟩
  have he1 : 1 ≤ e := by omega
  have he2 : e ≤ R := by omega
  obtain ⟨hq3, hq31, hqo⟩ := HG.out.pe he1 he2
  obtain ⟨gp, cp, kp, _, _, kpw⟩ := HS.out.pw
  have kpe := kpw e he2
  have HBL := Lib.hid hbl
  have HPT := Lib.hid (fun k => pow_tab (k := k) HG.out he1 he2)
  obtain ⟨q, hq⟩ : ∃ q, p ^ e = q := ⟨_, rfl⟩
  rw [hq] at kpe hq3 hq31 hqo HPT
  have HQ : Hid (p ^ (e : Int).toNat = q) := Lib.hid (by rw [Int.toNat_natCast, hq])
  have k0 := HS.out.cN
  have he3 : e < R + 1 := by omega
  clear hbl hE1 hE2 hq kpw
  go_wp2_with (at_make; refine Z.wpl_make rfl _ _ _ rfl e64s .i64 .i64 _ _ m rfl rfl rfl rfl (by omega) (by unfold maxLen; omega) ?_; intro w1 hr1 hb1 hs1)
  have HR := Lib.hid hr1
  clear hr1 kp kpe k0
  go_loopw [38] (fun J wr => ∃ j : Nat, J = .int .i64 (j : Int) ∧ j ≤ m ∧ wr.rowIs w.heap.size 2 m (Z.ku .i64 fun k => if k < j then decF q m x a k else 0) ∧ Below w.heap.size w wr) (fun J _ => m - (intOf J).toNat)
  case atStart => exact ⟨0, rfl, Nat.zero_le _, HR.out.congr fun k _ => rfl, hb1⟩
  case round =>
    obtain ⟨j, rfl, hj, hrow, hbl⟩ := hrel
    by_cases hjn : j < m
    · have e1 : decide ((j : Int) < (m : Int)) = true := decide_eq_true (by omega)
      have HROW := Lib.hid hrow
      have HBE := Lib.hid hbl
      obtain ⟨x3, hex⟩ : ∃ E, exN m j = E := ⟨_, rfl⟩
      have hEb : x3 < 2 * m := by rw [← hex]; exact (ex_fact HG.out.dim j hjn).2.1
      have HEX := Lib.hid hex
      clear hrow hbl hex
      go_wp2
      go_loopw [12, 43] (fun S I wr2 => ∃ i s : Nat, S = .int .u64 (s : Int) ∧ I = .int .i64 (i : Int) ∧ i ≤ m ∧ s < q ∧ Cg q (s : Int) (zsum (fun i => a i * (x : Int) ^ (i * x3)) i) ∧ ∃ d, wr2 = wr.drewN d) (fun _ I _ => m - (intOf I).toNat)
      case atStart => exact ⟨0, 0, rfl, rfl, Nat.zero_le _, by omega, Cg.refl _ _, 0, rfl⟩
      case round =>
        obtain ⟨i, s, rfl, rfl, him, hsq, hcg, d, rfl⟩ := hrel
        by_cases hin : i < m
        · have e2 : decide ((i : Int) < (m : Int)) = true := decide_eq_true (by omega)
          have hsl := HS.out.below HBE.out (Nat.le_refl _)
          have k0 := hsl.cN
          obtain ⟨gp, cp, kp, _, _, kpw⟩ := hsl.pw
          obtain ⟨gz, cz, kz, _, _, kzw⟩ := hsl.zt
          have kpe := kpw e he2
          rw [show p ^ e = q by rw [← HQ.out, Int.toNat_natCast]] at kpe
          have ke := hsl.ex j hjn
          rw [HEX.out] at ke
          obtain ⟨gg, off, hAe, _, hgl, hcell⟩ := (HA.out.below HBE.out hhi).2 (by omega)
          have ka := hcell i hin
          obtain ⟨y, hy⟩ : ∃ y, a i = y := ⟨_, rfl⟩
          rw [hy] at ka
          obtain ⟨r, hr⟩ : ∃ r : Nat, (r : Int) = y % (q : Int) := ⟨(y % (q : Int)).toNat, by rw [Int.toNat_of_nonneg]; exact Int.emod_nonneg y (by omega)⟩
          have hrb : r < q := by have := Int.emod_lt_of_pos y (show (0 : Int) < q by omega); omega
          have HRES := Lib.hid (fun d => residue_any b gp e R cp q r y (wr.drewN d) kp kpe he2 (by omega) hq31 hr)
          obtain ⟨t, ht⟩ : ∃ t, i * x3 = t := ⟨_, rfl⟩
          have hti : (i : Int) * (x3 : Int) = (t : Int) := by rw [← ht]; simp
          have htb : t ≤ 32 * 64 := by rw [← ht]; exact Nat.mul_le_mul (by omega) (by omega)
          obtain ⟨z, hz⟩ : ∃ z, t % (2 * m) = z := ⟨_, rfl⟩
          have hzi : (t : Int) % (2 * (m : Int)) = (z : Int) := by rw [← hz]; simp
          have hzt : (t : Int).tmod (2 * (m : Int)) = (z : Int) := by rw [Int.tmod_eq_emod_of_nonneg (by omega), hzi]
          have hzb : z < 2 * m := by rw [← hz]; exact Nat.mod_lt _ (by omega)
          have kzz := kzw z hzb
          obtain ⟨u, hu⟩ : ∃ u, x ^ z % p ^ R = u := ⟨_, rfl⟩
          rw [hu] at kzz
          have hub : u ≤ 2147483647 := by rw [← hu]; have := HG.out.pR; have := Nat.mod_lt (x ^ z) (show 0 < p ^ R by have := HG.out.xb; omega); omega
          obtain ⟨v, hv⟩ : ∃ v, u % q = v := ⟨_, rfl⟩
          have hvi : (u : Int) % (q : Int) = (v : Int) := by rw [← hv]; simp
          have hvt : (u : Int).tmod (q : Int) = (v : Int) := by rw [Int.tmod_eq_emod_of_nonneg (by omega), hvi]
          have hvb : v < q := by rw [← hv]; exact Nat.mod_lt _ (by omega)
          obtain ⟨mm, hmm⟩ : ∃ mm, r * v = mm := ⟨_, rfl⟩
          have hmi : (r : Int) * (v : Int) = (mm : Int) := by rw [← hmm]; simp
          have hmb : mm ≤ 4611686009837453316 := by rw [← hmm]; exact mul_lt_of hrb hvb hq31
          obtain ⟨s2, hs2⟩ : ∃ s2, (s + mm) % q = s2 := ⟨_, rfl⟩
          have hsi : ((s : Int) + (mm : Int)) % (q : Int) = (s2 : Int) := by rw [← hs2]; simp
          have hst : ((s : Int) + (mm : Int)).tmod (q : Int) = (s2 : Int) := by rw [Int.tmod_eq_emod_of_nonneg (by omega), hsi]
          have hs2q : s2 < q := by rw [← hs2]; exact Nat.mod_lt _ (by omega)
          have HNX : Hid (Cg q (s2 : Int) (zsum (fun i => a i * (x : Int) ^ (i * x3)) (i + 1))) := Lib.hid (by
            rw [← hs2]
            refine (Cg.modN _).trans ?_
            rw [Int.natCast_add, ← hmm, Int.natCast_mul]
            refine hcg.add (Cg.mul ?_ ?_)
            · rw [hr, hy]; exact Cg.mod y
            · rw [← hv, ← hu, ← hz, ← ht]
              exact HPT.out (i * x3))
          rw [hAe]
          have hq0 : ¬ q = 0 := by omega
          have hm0 : ¬ m = 0 := by omega
          have bi1 : 0 ≤ (i : Int) := by omega
          clear hsl hcell hy hr hcg hs2 hmm hv hu hz ht kpw kzw hAe
          go_wp2
          go_quiet ((exact (HRES.out _).mono fun e w' hh => ⟨hh.1, _, hh.2.symm⟩))
          go_wp2
          go_roundw
          case rel => exact ⟨i + 1, s2, rfl, by go_num, hin, hs2q, HNX.out, _, rfl⟩
          case measure => simp only [intOf]; omega
        · obtain rfl : m = i := by omega
          have e2 : decide ((m : Int) < (m : Int)) = false := decide_eq_false (by omega)
          have hsl := HS.out.below HBE.out (Nat.le_refl _)
          obtain ⟨gp, cp, kp, _, _, kpw⟩ := hsl.pw
          have kpe := kpw e he2
          rw [show p ^ e = q by rw [← HQ.out, Int.toNat_natCast]] at kpe
          have HBA := Lib.hid (balanced_any b gp e R cp q s (wr.drewN d) kp kpe he2 (by omega) hq31 hsq)
          have hbv : bal q (s : Int) = decF q m x a j := by
            unfold decF decZ
            rw [if_pos hjn, HEX.out]
            exact bal_congr hcg
          obtain ⟨v, hv⟩ : ∃ v, decF q m x a j = v := ⟨_, rfl⟩
          rw [hbv, hv] at HBA
          have k1 := HROW.out.cell hjn
          have f1 := HROW.out.frozen j
          simp only [Z.ku] at k1
          have HV := Lib.hid hv
          have bi1 : 0 ≤ (j : Int) := by omega
          clear hsl hcg hbv hv kpw kpe kp
          go_wp2_with (go_at_call 33; refine HBA.out.mono ?_; rintro e w' ⟨rfl, hw⟩; subst hw)
          go_roundw
          case rel =>
            refine ⟨j + 1, by go_num, hjn, (Z.rowIs_set_ku (w := wr.drewN d) HROW.out j v).congr fun k _ => ?_, (below_drewN HBE.out d).setCell (p := ⟨w.heap.size, j, none⟩) (Nat.le_refl _) _⟩
            simp only [Z.ku]
            congr 1
            by_cases hkj : k = j
            · rw [if_pos hkj, hkj, if_pos (Nat.lt_succ_self j), HV.out]
            · rw [if_neg hkj]
              by_cases h2 : k < j
              · rw [if_pos h2, if_pos (by omega)]
              · rw [if_neg h2, if_neg (by omega)]
          case measure => simp only [intOf]; omega
    · obtain rfl : m = j := by omega
      have e1 : decide ((m : Int) < (m : Int)) = false := decide_eq_false (by omega)
      have HROW := Lib.hid hrow
      clear hrow
      go_wp2
      go_ret2
      refine ⟨hbl, .inr ⟨HOK.out, _, _, rfl, Z.Sq.of_row HROW.out (Nat.le_refl _) (Nat.le_refl _) HROW.out.lt (fun k hk => ?_) fun k hk => ?_⟩⟩
      · unfold decF; rw [if_neg (by omega)]
      · rw [if_pos hk, HQ.out]
end Go.Proofs.Ytcnkddoipmaddaa
