/- A region that draws its order: operations that read or call quietly, and behind all of them a tail in one forced order: walked once. -/
/- The contract of Encode. -/
import Derived.StillTail
import Derived.Deep.QuietTactic
import Derived.BigQuiet
import Derived.WalkKit
import Derived.Test.YtcnkddoipmaddaaDec8
import Derived.Test.YtcnkddoipmaddaaRInv
namespace Go.Proofs.Ytcnkddoipmaddaa
open Go.RowKit
set_option linter.unusedVariables false

section
variable {P : Program} {ops : Array Oper} {md : Region.Mode} {C : World → Prop}
/-- whatever quiet operation of the first n comes next, f times; then L -/
def hqAny (P : Program) (md : Region.Mode) (ops : Array Oper) (C : World → Prop) (n : Nat) (L : Array Bool → Act → Prop) : Nat → Array Bool → Act → Prop
  | 0, listed, a => L listed a
  | f + 1, listed, a => Region.ready md ops listed ≠ [] ∧ ∀ i ∈ Region.ready md ops listed, i < n ∧ qOp P ops C i (hqAny P md ops C n L f (listed.setIfInBounds i true)) a
theorem hq_any {n g : Nat} {L : Array Bool → Act → Prop} {Q' : Exit → Act → World → Prop} (hL : ∀ listed a w, C w → L listed a → wpAny P md ops Q' g listed a w) :
    ∀ (f : Nat) (listed : Array Bool) (a : Act) (w : World), C w → hqAny P md ops C n L f listed a → wpAny P md ops Q' (f + g) listed a w
  | 0, listed, a, w, hw, h => by rw [Nat.zero_add]; exact hL _ _ _ hw h
  | f + 1, listed, a, w, hw, h => by
    rw [Nat.succ_add]
    exact ⟨fun h0 => absurd h0 h.1, fun i hi => wpOp_of_qOp hw (fun a' w' hw' h' => hq_any hL f _ a' w' hw' h') (h.2 i hi).2⟩
theorem hq_first {n i : Nat} {oi : Oper} {v : Value} {L : Array Bool → Act → Prop} (hi : ops[i]? = some oi) (hsel : ∀ (j : Nat) (o : Oper) cs b, ops[j]? = some o → o.op ≠ .select cs b)
    (hs : Region.sinkB md ops n = true) (hc : Region.chainB md ops n = true) (hn : n < ops.size) (hin : i < n) (hdone : ∀ listed a, L listed a → ∀ j ∈ Region.ready md ops listed, n ≤ j) :
    ∀ (f : Nat) (listed : Array Bool) (a : Act), HeadInv md ops n listed →
      (∀ j oj, ops[j]? = some oj → j ≠ i → listed.getD j true = false → (∀ e ∈ oj.after, Region.binds md e = true → e.on ≠ i) → oi.apart ops oj = true) →
      i ∈ Region.ready md ops listed → YieldsIn P ops C oi v a →
      hqAny P md ops C n L f (listed.setIfInBounds i true) (a.put oi.dst v) → hqAny P md ops C n L (f + 1) listed a := by
  intro f
  induction f with
  | zero =>
    intro listed a inv _ hr hy H
    have hun := (mem_ready.1 hr).1
    refine ⟨fun h => (by rw [h] at hr; cases hr), fun j hj => ?_⟩
    have hjn : j < n := Nat.lt_of_not_le fun h => absurd hj (tail_waits hs hc hn inv _ i rfl hin hun j h)
    refine ⟨hjn, ?_⟩
    by_cases hji : j = i
    · subst hji; exact hy.qOp hi H
    · have := hdone _ _ H j (ready_mono hj hji)
      omega
  | succ f ih =>
    intro listed a inv hfree hr hy H
    have hun := (mem_ready.1 hr).1
    refine ⟨fun h => (by rw [h] at hr; cases hr), fun j hj => ?_⟩
    have hjn : j < n := Nat.lt_of_not_le fun h => absurd hj (tail_waits hs hc hn inv _ i rfl hin hun j h)
    refine ⟨hjn, ?_⟩
    by_cases hji : j = i
    · subst hji; exact hy.qOp hi H
    · obtain ⟨hjun, oj, hoj, hall⟩ := mem_ready.1 hj
      have hnot : ∀ e ∈ oj.after, Region.binds md e = true → e.on ≠ i := fun e he hb heq => by
        have h1 := hall e he hb
        rw [heq, getD_both hun] at h1
        cases h1
      have h2 := qOp_put hoj (hfree j oj hoj hji hjun hnot) (fun cs b => hsel i oi cs b hi) (fun cs b => hsel j oj cs b hoj) hy (H.2 j (ready_mono hj hji)).2
      have hfree' : ∀ k ok, ops[k]? = some ok → k ≠ i → (listed.setIfInBounds j true).getD k true = false → (∀ e ∈ ok.after, Region.binds md e = true → e.on ≠ i) → oi.apart ops ok = true := fun k ok hk hki hku hno => by
        refine hfree k ok hk hki ?_ hno
        by_cases hjk : j = k
        · subst hjk; exact hjun
        · rw [getD_set_ne true hjk] at hku; exact hku
      refine qOp_mono (fun a' h3 => ih (listed.setIfInBounds j true) a' (inv.set hj hjn) hfree' (ready_mono hr (Ne.symm hji)) h3.1 ?_) h2
      rw [Array.setIfInBounds_comm _ _ hji]
      exact h3.2
theorem hq_lex {n g : Nat} {Lq : Act → Prop} (hsel : Region.noSelect ops = true) (hs : Region.sinkB md ops n = true) (hc : Region.chainB md ops n = true) (hn : n < ops.size) :
    ∀ (l : List Oper) (k : Nat) (listed : Array Bool) (a : Act), (∀ j, j < l.length → l[j]? = ops[k + j]?) → k + l.length = n → HeadInv md ops n listed →
    Region.lexHead md ops g l.length k listed = true → wpQuiet P ops C Lq l a → hqAny P md ops C n (fun listed' a' => Region.seqB md ops g n listed' = true ∧ Lq a') l.length listed a
  | [], k, listed, a, _, hk, _, hB, h => by
    obtain rfl : k = n := by simpa using hk
    exact ⟨by simpa [Region.lexHead] using hB, h⟩
  | o :: l, k, listed, a, hl, hk, inv, hB, h => by
    have h0 : ops[k]? = some o := by simpa using (hl 0 (by simp)).symm
    simp only [List.length_cons, Region.lexHead, Bool.and_eq_true] at hB
    obtain ⟨⟨hr, hf⟩, hB'⟩ := hB
    have hkn : k < n := by simp only [List.length_cons] at hk; omega
    have hr' : k ∈ Region.ready md ops listed := by simpa using hr
    have hst : qOp P ops C k (wpQuiet P ops C Lq l) a := by unfold qOp; simp only [h0]; exact h
    obtain ⟨v, hy, hK⟩ := yieldsIn_of_qOp h0 hst
    exact hq_first h0 (Region.noSelect_spec hsel) hs hc hn hkn (fun listed' a' hL => seqB_ready hL.1) l.length listed a inv (Region.free_spec h0 hf) hr' hy
      (hq_lex hsel hs hc hn l (k + 1) _ _ (fun j hj => by have := hl (j + 1) (by simp; omega); simpa [Nat.add_assoc, Nat.add_comm 1 j] using this) (by simp only [List.length_cons] at hk; omega) (inv.set hr' hkn) hB' hK)
end

/-- the law: n operations quietly, then the tail, in every world that the draws may have left -/
theorem wp_region_quiet_tail {P : Program} {id : Nat} {Q : Exit → Act → World → Prop} {a : Act} {w : World} {l : List Oper} (n : Nat) (hm : P.follows .mixedOrders = true) (hB : Region.lexTailB .any l.toArray n = true)
    (h : wpQuiet P l.toArray (fun w' => ∃ k, w' = w.drewN k) (fun a' => ∀ w', (∃ k, w' = w.drewN k) → wpList P l.toArray Q (l.drop n) a' w') (l.take n) a) : (Code.region id l.toArray true).wp P Q a w := by
  simp only [Region.lexTailB, Bool.and_eq_true, decide_eq_true_eq] at hB
  obtain ⟨⟨⟨⟨hsel, hn⟩, hs⟩, hc⟩, hlex⟩ := hB
  have hn' : n < l.length := by simpa using hn
  have htl : (l.take n).length = n := by simp; omega
  have hdl : (l.drop n).length = l.toArray.size - n := by simp
  have inv0 : HeadInv .any l.toArray n (Array.replicate l.toArray.size false) :=
    ⟨by simp, fun j oj _ hl => (by rw [getD_replicate_false] at hl; cases hl), fun t _ ht => getD_in (by simpa using ht) (getD_replicate_false _ _)⟩
  have H := hq_lex (md := .any) (g := l.toArray.size - n) hsel hs hc hn (l.take n) 0 _ a (fun j hj => by
    have hj' : j < n := by rw [htl] at hj; exact hj
    simp [hj']) (by simpa using htl) inv0 (by rw [htl]; exact hlex) h
  refine wp_region_any hm ?_
  have := hq_any (C := fun w' => ∃ k, w' = w.drewN k) (Q' := Q) (g := l.toArray.size - n) (fun listed a' w' hw' hL => by
    have := wpAny_of_seq (md := .any) (Q' := Q) (l.drop n) n listed a' w' (fun j => by simp [List.getElem?_drop]) (by rw [hdl]; exact hL.1) (hL.2 w' hw')
    rwa [hdl] at this) _ _ _ { w with drawn := w.drawn + 1 } ⟨1, rfl⟩ H
  rw [htl, show n + (l.toArray.size - n) = l.toArray.size by omega] at this
  exact this
end Go.Proofs.Ytcnkddoipmaddaa

namespace Go.Proofs.Ytcnkddoipmaddaa
open Go.RowKit
set_option linter.unusedVariables false

theorem inv_share {n p R x e : Nat} (hg : G8 n p R x) (h1 : 1 ≤ e) : invN n (p ^ e) < p ^ e ∧ Cg (p ^ e) ((invN n (p ^ e) : Int) * n) 1 ∧ Nat.gcd (p ^ e) n = 1 ∧ n < p ^ e := by
  have hp := hg.zr.rt.pr
  have hp2 := hp.1
  have hle := Nat.pow_le_pow_right (show 0 < p by omega) h1
  rw [Nat.pow_one] at hle
  have hnp := hg.np
  have hg1 : Nat.gcd (p ^ e) n = 1 := Nat.Coprime.pow_left e (hp.coprime fun hd => by have := Nat.le_of_dvd (by have := hg.nb; omega) hd; omega)
  have h := invN_spec (a := n) (m := p ^ e) (by omega) (by omega) hg1
  exact ⟨h.1, by rw [← Int.natCast_mul]; exact Cg.nat.2 h.2, hg1, by omega⟩

set_option maxRecDepth 100000 in
set_option maxHeartbeats 4000000 in
theorem encode_any (l b n p R x m c lo hi : Nat) (E : Int) (A : Option Addr) (a : Nat → Int) (w : World) (hg : G8 n p R x) (hs : Sl w l b n p R x) (ha : Z.Sq .i64 w lo hi A m a) (hm : m ≤ 9223372036854775807) (hhi : hi ≤ w.heap.size) :
    Calls Try.prog 15 #[.pointer (some ⟨b, 0, none⟩), .slice A m c, .int .i64 E] w (RetDc w (VOk n p R m a E) n (encF (p ^ E.toNat) n x (invN n (p ^ E.toNat)) a)) := by
  obtain ⟨hn4, hn32⟩ := hg.nb
  have HG := Lib.hid hg
  have HS := Lib.hid hs
  have HA := Lib.hid ha
  have HC := Lib.hid (check_any l b n p R x m c lo hi E A a w hs (by omega) hn32 (by have := hg.R7; omega) (by have := hg.p3; omega) hg.pR ha hm)
  clear hg hs ha
  go_enter Try.func15, Try.ntmps15
  go_wp2_with fail
  (with_reducible refine HC.out.mono ?_)
  rintro e w1 ⟨hw1, hh⟩
  subst hw1
  rcases hh with ⟨hok, rfl⟩ | ⟨hok, rfl⟩
  rotate_left
  · have HOK := Lib.hid hok
    clear hok
    go_wp2_with fail
    go_ret2
    exact ⟨Below.refl _ _, .inl ⟨HOK.out, rfl⟩⟩
  have HOK := Lib.hid hok
  obtain ⟨hE1, hE2, rfl, hbl⟩ := hok
  obtain ⟨e, rfl⟩ : ∃ e : Nat, E = (e : Int) := ⟨E.toNat, by omega⟩
  have he1 : 1 ≤ e := by omega
  have he2 : e ≤ R := by omega
  obtain ⟨hq3, hq31, hqo⟩ := HG.out.pe he1 he2
  obtain ⟨gp, cp, kp, _, _, kpw⟩ := HS.out.pw
  have kpe := kpw e he2
  have HBL := Lib.hid hbl
  have HPT := Lib.hid (fun k => pow_tab (k := k) HG.out he1 he2)
  obtain ⟨q, hq⟩ : ∃ q, p ^ e = q := ⟨_, rfl⟩
  rw [hq] at kpe hq3 hq31 hqo HPT
  have HQ : Hid (p ^ (e : Int).toNat = q) := Lib.hid (by rw [Int.toNat_natCast, hq])
  have k0 := HS.out.cN
  have he3 : e < R + 1 := by omega
  obtain ⟨hsh1, hsh2, hsh3, hsh4⟩ := inv_share HG.out he1
  rw [hq] at hsh1 hsh2 hsh3 hsh4
  obtain ⟨sh, hsh⟩ : ∃ sh, invN m q = sh := ⟨_, rfl⟩
  rw [hsh] at hsh1 hsh2
  have HSH := Lib.hid hsh
  have hie := invE_ok (fits_one.2 ⟨hsh4, by omega, hq31⟩) hsh3
  rw [hsh] at hie
  have HIE := Lib.hid hie
  have HINV := Lib.hid (inverse_any m q w)
  have hni : (m : Int) % (q : Int) = (m : Int) := Int.emod_eq_of_lt (by omega) (by omega)
  have hnt : (m : Int).tmod (q : Int) = (m : Int) := by rw [Int.tmod_eq_emod_of_nonneg (by omega), hni]
  have hq0 : ¬ q = 0 := by omega
  clear hbl hE1 hE2 hq kpw hsh hsh2 hsh3 hie
  go_wp2_with fail
  (with_reducible refine HINV.out.mono ?_)
  rintro e0 w0 ⟨hb0, rfl⟩
  rw [HIE.out]
  have k0 := (HS.out.below hb0 (Nat.le_refl _)).cN
  have hz0 := hb0.size
  go_wp2_with (at_make; refine Z.wpl_make rfl _ _ _ rfl e64s .i64 .i64 _ _ m rfl rfl rfl rfl (by omega) (by unfold maxLen; omega) ?_; intro w1 hr1 hb1' hs1; have hb1 : Below w.heap.size w w1 := hb0.trans (hb1'.mono hz0))
  have HR := Lib.hid hr1
  clear hr1 kp kpe k0 hni hnt hb1'
  go_loopw [55] (fun J wr => ∃ j : Nat, J = .int .i64 (j : Int) ∧ j ≤ m ∧ wr.rowIs w0.heap.size 2 m (Z.ku .i64 fun k => if k < j then encF q m x sh a k else 0) ∧ Below w.heap.size w wr) (fun J _ => m - (intOf J).toNat)
  case atStart => exact ⟨0, rfl, Nat.zero_le _, HR.out.congr fun k _ => rfl, hb1⟩
  case round =>
    obtain ⟨j, rfl, hj, hrow, hbl⟩ := hrel
    by_cases hjn : j < m
    · have e1 : decide ((j : Int) < (m : Int)) = true := decide_eq_true (by omega)
      have HROW := Lib.hid hrow
      have HBE := Lib.hid hbl
      clear hrow hbl
      go_wp2
      go_loopw [14, 60] (fun S I wr2 => ∃ i s : Nat, S = .int .u64 (s : Int) ∧ I = .int .i64 (i : Int) ∧ i ≤ m ∧ s < q ∧ Cg q (s : Int) (zsum (fun i => a i * (x : Int) ^ (j * (2 * m - exN m i))) i) ∧ ∃ d, wr2 = wr.drewN d) (fun _ I _ => m - (intOf I).toNat)
      case atStart => exact ⟨0, 0, rfl, rfl, Nat.zero_le _, by omega, Cg.refl _ _, 0, rfl⟩
      case round =>
        obtain ⟨i, s, rfl, rfl, him, hsq, hcg, d, rfl⟩ := hrel
        by_cases hin : i < m
        · have e2 : decide ((i : Int) < (m : Int)) = true := decide_eq_true (by omega)
          have hsl := HS.out.below HBE.out (Nat.le_refl _)
          have k0 := hsl.cN
          obtain ⟨gp, cp, kp, _, _, kpw⟩ := hsl.pw
          obtain ⟨gz, cz, kz, _, _, kzw⟩ := hsl.zt
          have kpe := kpw e he2
          rw [show p ^ e = q by rw [← HQ.out, Int.toNat_natCast]] at kpe
          have ke := hsl.ex i hin
          obtain ⟨x3, hex⟩ : ∃ E, exN m i = E := ⟨_, rfl⟩
          have hEb : x3 < 2 * m := by rw [← hex]; exact (ex_fact HG.out.dim i hin).2.1
          rw [hex] at ke
          obtain ⟨gg, off, hAe, _, hgl, hcell⟩ := (HA.out.below HBE.out hhi).2 (by omega)
          have ka := hcell i hin
          obtain ⟨y, hy⟩ : ∃ y, a i = y := ⟨_, rfl⟩
          rw [hy] at ka
          obtain ⟨r, hr⟩ : ∃ r : Nat, (r : Int) = y % (q : Int) := ⟨(y % (q : Int)).toNat, by rw [Int.toNat_of_nonneg]; exact Int.emod_nonneg y (by omega)⟩
          have hrb : r < q := by have := Int.emod_lt_of_pos y (show (0 : Int) < q by omega); omega
          have HRES := Lib.hid (fun d => residue_any b gp e R cp q r y (wr.drewN d) kp kpe he2 (by omega) hq31 hr)
          obtain ⟨t, ht⟩ : ∃ t, j * (2 * m - x3) = t := ⟨_, rfl⟩
          have hti : (j : Int) * (2 * (m : Int) - (x3 : Int)) = (t : Int) := by rw [← ht, Int.natCast_mul, Int.ofNat_sub (by omega)]; simp
          have htb : t ≤ 32 * 64 := by rw [← ht]; exact Nat.mul_le_mul (by omega) (by omega)
          obtain ⟨z, hz⟩ : ∃ z, t % (2 * m) = z := ⟨_, rfl⟩
          have hzi : (t : Int) % (2 * (m : Int)) = (z : Int) := by rw [← hz]; simp
          have hzt : (t : Int).tmod (2 * (m : Int)) = (z : Int) := by rw [Int.tmod_eq_emod_of_nonneg (by omega), hzi]
          have hzb : z < 2 * m := by rw [← hz]; exact Nat.mod_lt _ (by omega)
          have kzz := kzw z hzb
          obtain ⟨u, hu⟩ : ∃ u, x ^ z % p ^ R = u := ⟨_, rfl⟩
          rw [hu] at kzz
          have hub : u ≤ 2147483647 := by rw [← hu]; have := HG.out.pR; have := Nat.mod_lt (x ^ z) (show 0 < p ^ R by have := HG.out.xb; omega); omega
          obtain ⟨v, hv⟩ : ∃ v, u % q = v := ⟨_, rfl⟩
          have hvi : (u : Int) % (q : Int) = (v : Int) := by rw [← hv]; simp
          have hvt : (u : Int).tmod (q : Int) = (v : Int) := by rw [Int.tmod_eq_emod_of_nonneg (by omega), hvi]
          have hvb : v < q := by rw [← hv]; exact Nat.mod_lt _ (by omega)
          obtain ⟨mm, hmm⟩ : ∃ mm, r * v = mm := ⟨_, rfl⟩
          have hmi : (r : Int) * (v : Int) = (mm : Int) := by rw [← hmm]; simp
          have hmb : mm ≤ 4611686009837453316 := by rw [← hmm]; exact mul_lt_of hrb hvb hq31
          obtain ⟨s2, hs2⟩ : ∃ s2, (s + mm) % q = s2 := ⟨_, rfl⟩
          have hsi : ((s : Int) + (mm : Int)) % (q : Int) = (s2 : Int) := by rw [← hs2]; simp
          have hst : ((s : Int) + (mm : Int)).tmod (q : Int) = (s2 : Int) := by rw [Int.tmod_eq_emod_of_nonneg (by omega), hsi]
          have hs2q : s2 < q := by rw [← hs2]; exact Nat.mod_lt _ (by omega)
          have HNX : Hid (Cg q (s2 : Int) (zsum (fun i => a i * (x : Int) ^ (j * (2 * m - exN m i))) (i + 1))) := Lib.hid (by
            rw [← hs2]
            refine (Cg.modN _).trans ?_
            rw [Int.natCast_add, ← hmm, Int.natCast_mul]
            refine hcg.add (Cg.mul ?_ ?_)
            · rw [hr, hy]; exact Cg.mod y
            · rw [← hv, ← hu, ← hz, ← ht, hex]
              exact HPT.out (j * (2 * m - x3)))
          rw [hAe]
          have hq0 : ¬ q = 0 := by omega
          have hm0 : ¬ m = 0 := by omega
          have bi1 : 0 ≤ (i : Int) := by omega
          clear hsl hcell hy hr hcg hs2 hmm hv hu hz ht kpw kzw hAe hex
          go_wp2
          go_quiet ((exact (HRES.out _).mono fun e w' hh => ⟨hh.1, _, hh.2.symm⟩))
          go_wp2
          go_roundw
          case rel => exact ⟨i + 1, s2, rfl, by go_num, hin, hs2q, HNX.out, _, rfl⟩
          case measure => simp only [intOf]; omega
        · obtain rfl : m = i := by omega
          have e2 : decide ((m : Int) < (m : Int)) = false := decide_eq_false (by omega)
          have hsl := HS.out.below HBE.out (Nat.le_refl _)
          obtain ⟨gp, cp, kp, _, _, kpw⟩ := hsl.pw
          have kpe := kpw e he2
          rw [show p ^ e = q by rw [← HQ.out, Int.toNat_natCast]] at kpe
          obtain ⟨mm, hmm⟩ : ∃ mm, s * sh = mm := ⟨_, rfl⟩
          have hmi : (s : Int) * (sh : Int) = (mm : Int) := by rw [← hmm]; simp
          have hmb : mm ≤ 4611686009837453316 := by rw [← hmm]; exact mul_lt_of hsq hsh1 hq31
          obtain ⟨s3, hs3⟩ : ∃ s3, mm % q = s3 := ⟨_, rfl⟩
          have hsi : (mm : Int) % (q : Int) = (s3 : Int) := by rw [← hs3]; simp
          have hst : (mm : Int).tmod (q : Int) = (s3 : Int) := by rw [Int.tmod_eq_emod_of_nonneg (by omega), hsi]
          have hs3q : s3 < q := by rw [← hs3]; exact Nat.mod_lt _ (by omega)
          have hbv : bal q (s3 : Int) = encF q m x sh a j := by
            unfold encF encZ
            rw [if_pos hjn]
            refine bal_congr ?_
            rw [← hs3]
            refine (Cg.modN _).trans ?_
            rw [← hmm, Int.natCast_mul]
            exact hcg.mul (Cg.refl q _)
          obtain ⟨v, hv⟩ : ∃ v, encF q m x sh a j = v := ⟨_, rfl⟩
          rw [hv] at hbv
          have HBA := Lib.hid (fun d' => by have := balanced_any b gp e R cp q s3 (wr.drewN d') kp kpe he2 (by omega) hq31 hs3q; rw [hbv] at this; exact this)
          have k1 := HROW.out.cell hjn
          have f1 := HROW.out.frozen j
          simp only [Z.ku] at k1
          have HV := Lib.hid hv
          have bi1 : 0 ≤ (j : Int) := by omega
          have hq0 : ¬ q = 0 := by omega
          clear hsl hcg hbv hv kpw kpe kp hmm hs3
          go_wp2
          refine wp_region_quiet_tail 14 (by kernel_rfl) (by kernel_rfl) ?_
          simp only [List.take_succ_cons, List.take_zero, List.drop_succ_cons, List.drop_zero]
          repeat (go_big_quiet_step ((exact (HBA.out _).mono fun e w' hh => ⟨hh.1, _, hh.2.symm⟩)))
          refine wpQuiet_nil ?_
          rintro _ ⟨d2, rfl⟩
          go_wp2
          all_goals go_roundw
          case rel =>
            refine ⟨j + 1, by go_num, hjn, (Z.rowIs_set_ku (w := wr.drewN (d + d2)) HROW.out j v).congr fun k _ => ?_, (below_drewN HBE.out (d + d2)).setCell (p := ⟨w0.heap.size, j, none⟩) (show w.heap.size ≤ w0.heap.size from hz0) _⟩
            simp only [Z.ku]
            congr 1
            by_cases hkj : k = j
            · rw [if_pos hkj, hkj, if_pos (Nat.lt_succ_self j), HV.out]
            · rw [if_neg hkj]
              by_cases h2 : k < j
              · rw [if_pos h2, if_pos (by omega)]
              · rw [if_neg h2, if_neg (by omega)]
          case measure => simp only [intOf]; omega
    · obtain rfl : m = j := by omega
      have e1 : decide ((m : Int) < (m : Int)) = false := decide_eq_false (by omega)
      have HROW := Lib.hid hrow
      clear hrow
      go_wp2
      go_ret2
      refine ⟨hbl, .inr ⟨HOK.out, _, _, rfl, Z.Sq.of_row HROW.out (Nat.le_refl _) hz0 HROW.out.lt (fun k hk => ?_) fun k hk => ?_⟩⟩
      · unfold encF; rw [if_neg (by omega)]
      · rw [if_pos hk, HQ.out, HSH.out]
end Go.Proofs.Ytcnkddoipmaddaa
