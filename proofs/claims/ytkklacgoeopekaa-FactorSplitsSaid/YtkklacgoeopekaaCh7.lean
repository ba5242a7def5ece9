/- Polynomials as lists: the contracts of layer 5 once more, and that of factor.character. -/
import Derived.Test.YtkklacgoeopekaaGcdPlain
import Derived.Test.YtkklacgoeopekaaCombine
import Derived.Test.YtkklacgoeopekaaAlg
import Derived.Test.YtkklacgoeopekaaLit
namespace Go.Proofs.Ytkklacgoeopekaa
open Go.RowKit
set_option linter.unusedVariables false

/-- a list of numbers in memory -/
def LS (w : World) (lo hi : Nat) (A : Option Addr) (l : List Nat) : Prop := Sq .u32 w lo hi A l.length (litF l)
def toL (n : Nat) (F : Nat → Nat) : List Nat := (List.range n).map F
theorem toL_len (n : Nat) (F : Nat → Nat) : (toL n F).length = n := by simp [toL]
theorem litF_toL {n : Nat} {F : Nat → Nat} (h : ∀ j, n ≤ j → F j = 0) : litF (toL n F) = F := funext fun j => by
  unfold litF toL
  rw [List.getD_eq_getElem?_getD, List.getElem?_map]
  by_cases hj : j < n
  · rw [List.getElem?_range hj]; rfl
  · rw [List.getElem?_eq_none (by simpa using hj), h j (by omega)]; rfl
theorem LS.of {w : World} {lo hi n : Nat} {A : Option Addr} {F : Nat → Nat} (h : Sq .u32 w lo hi A n F) : LS w lo hi A (toL n F) := by
  unfold LS
  rw [toL_len, litF_toL h.1]
  exact h
theorem LS.below {w w' : World} {lo hi B : Nat} {A : Option Addr} {l : List Nat} (h : LS w lo hi A l) (hb : Below B w w') (hB : hi ≤ B) : LS w' lo hi A l := Sq.below h hb hB
theorem LS.wide {w : World} {lo hi lo' hi' : Nat} {A : Option Addr} {l : List Nat} (h : LS w lo hi A l) (hl : lo' ≤ lo) (hh : hi ≤ hi') : LS w lo' hi' A l := Sq.wide h hl hh
theorem LS.next {w w' : World} {A : Option Addr} {l : List Nat} (h : LS w 0 w.heap.size A l) (hb : Below w.heap.size w w') : LS w' 0 w'.heap.size A l := (h.below hb (Nat.le_refl _)).wide (Nat.le_refl _) hb.size
theorem LS.fresh {w w' : World} {A : Option Addr} {l : List Nat} (h : LS w' w.heap.size w'.heap.size A l) : LS w' 0 w'.heap.size A l := h.wide (Nat.zero_le _) (Nat.le_refl _)
def dmQ (p : Nat) (a f : List Nat) : List Nat := toL (tl (dvQ p a.length (litF a) f.length (litF f)) (dL a.length f.length)) (dvQ p a.length (litF a) f.length (litF f))
def dmR (p : Nat) (a f : List Nat) : List Nat := toL (tl (dvR p a.length (litF a) f.length (litF f)) a.length) (dvR p a.length (litF a) f.length (litF f))
def mlL (p : Nat) (a b : List Nat) : List Nat := toL (tl (mlF p a.length (litF a) b.length (litF b)) (a.length + b.length)) (mlF p a.length (litF a) b.length (litF b))
def pwL (p : Nat) (a : List Nat) (N : Nat) (f : List Nat) : List Nat := toL (pwP p a.length (litF a) N f.length (litF f)).1 (pwP p a.length (litF a) N f.length (litF f)).2
def sbL (p : Nat) (a b : List Nat) : List Nat := toL (tl (okF (chk2 p a.length (litF a) b.length (litF b)) (subF p (litF a) (litF b))) (max a.length b.length)) (okF (chk2 p a.length (litF a) b.length (litF b)) (subF p (litF a) (litF b)))
def gcL (p : Nat) (a b : List Nat) : List Nat := if chk2 p a.length (litF a) b.length (litF b) = 0 then toL (gcdF p a.length (litF a) b.length (litF b)).1 (gcdF p a.length (litF a) b.length (litF b)).2 else []
/-- a list and an error -/
def RetL (w : World) (l : List Nat) (e : Ending) (w' : World) : Prop := ∃ A c E, e = .returned (.tuple #[.slice A l.length c, .int .i64 E]) ∧ l.length ≤ c ∧ LS w' w.heap.size w'.heap.size A l ∧ Below w.heap.size w w'
theorem RetL.of {w w' : World} {n er : Nat} {F : Nat → Nat} {e : Ending} (h : RetSlE w n F er e w') : RetL w (toL n F) e w' := by
  obtain ⟨A, c, rfl, h1, h2, h3⟩ := h
  exact ⟨A, c, _, by rw [toL_len], by rw [toL_len]; exact h1, LS.of h2, h3⟩
theorem dm_call (p ca cb : Nat) (A B : Option Addr) (a f : List Nat) (w : World) (ha : LS w 0 w.heap.size A a) (hf : LS w 0 w.heap.size B f) (hn : a.length ≤ 10000) (hnb : f.length ≤ 10000) :
    Calls Try.prog 31 #[.int .u32 p, .slice A a.length ca, .slice B f.length cb] w (fun e w' => ∃ A1 c1 A2 c2 E, e = .returned (.tuple #[.slice A1 (dmQ p a f).length c1, .slice A2 (dmR p a f).length c2, .int .i64 E]) ∧
      LS w' w.heap.size w'.heap.size A1 (dmQ p a f) ∧ LS w' w.heap.size w'.heap.size A2 (dmR p a f) ∧ Below w.heap.size w w') :=
  (divmod_any p a.length f.length ca cb A B (litF a) (litF f) w 0 w.heap.size ha hf (by omega) (by omega) (Nat.le_refl _)).mono fun e w' h => by
    obtain ⟨A1, c1, A2, c2, rfl, h1, h2, h3, h4, h5⟩ := h
    exact ⟨A1, c1, A2, c2, _, by unfold dmQ dmR; rw [toL_len, toL_len], LS.of h3, LS.of h4, h5⟩
theorem ml_call (p ca cb : Nat) (A B : Option Addr) (a b : List Nat) (w : World) (ha : LS w 0 w.heap.size A a) (hf : LS w 0 w.heap.size B b) (hn : a.length ≤ 10000) (hnb : b.length ≤ 10000) :
    Calls Try.prog 50 #[.int .u32 p, .slice A a.length ca, .slice B b.length cb] w (RetL w (mlL p a b)) :=
  (mul_any p a.length b.length ca cb A B (litF a) (litF b) w 0 w.heap.size ha hf (by omega) (by omega) (Nat.le_refl _)).mono fun e w' h => RetL.of h
theorem sb_call (p ca cb : Nat) (A B : Option Addr) (a b : List Nat) (w : World) (ha : LS w 0 w.heap.size A a) (hf : LS w 0 w.heap.size B b) (hn : a.length ≤ 10000) (hnb : b.length ≤ 10000) :
    Calls Try.prog 29 #[.int .u32 p, .slice A a.length ca, .slice B b.length cb] w (RetL w (sbL p a b)) :=
  (psub_any p a.length b.length ca cb A B (litF a) (litF b) w 0 w.heap.size ha hf (by omega) (by omega) (Nat.le_refl _)).mono fun e w' h => RetL.of h
theorem pw_call (p ca cb N : Nat) (A B : Option Addr) (a f : List Nat) (w : World) (ha : LS w 0 w.heap.size A a) (hf : LS w 0 w.heap.size B f) (hn : a.length ≤ 10000) (hnb : f.length ≤ 10000) (hN : N < 18446744073709551616) :
    Calls Try.prog 51 #[.int .u32 p, .slice A a.length ca, .int .u64 N, .slice B f.length cb] w (RetL w (pwL p a N f)) :=
  (powmod_any p a.length f.length ca cb N A B (litF a) (litF f) w ha hf (by omega) (by omega) hN).mono fun e w' h => RetL.of h
theorem gc_call (p ca cb : Nat) (A B : Option Addr) (a b : List Nat) (w : World) (ha : LS w 0 w.heap.size A a) (hf : LS w 0 w.heap.size B b) (hp : prB p = true) (hp2 : p ≤ 4294967295) (hn : a.length ≤ 10000) (hnb : b.length ≤ 10000) :
    Calls Try.prog 30 #[.int .u32 p, .slice A a.length ca, .slice B b.length cb] w (RetL w (gcL p a b)) :=
  (gcd_any p a.length b.length ca cb A B (litF a) (litF b) w ha hf hp2 (by omega) (by omega)).mono fun e w' h => by
    have h2 := RetL.of h
    have e1 : toL (gcV p a.length (litF a) b.length (litF b)).1 (gcV p a.length (litF a) b.length (litF b)).2 = gcL p a b := by
      unfold gcL gcV gcE
      rw [if_pos hp]
      split
      · rfl
      · rfl
    rw [e1] at h2
    exact h2

/-- the rounds of character -/
def chrS (p : Nat) (f : List Nat) (x : List Nat) : Nat → List Nat × List Nat
  | 0 => ([1], x)
  | i + 1 => (dmR p (mlL p (chrS p f x i).1 (chrS p f x i).2) f, pwL p (chrS p f x i).2 p f)
def chrL (p d : Nat) (a f : List Nat) : List Nat := pwL p (chrS p f (dmR p a f) d).1 ((p - 1) / 2) f
/-- no list grows beyond bounds on the way -/
def chrB (p d : Nat) (a f : List Nat) : Bool := decide (a.length ≤ 1000) && decide (f.length ≤ 1000) && (List.range (d + 1)).all fun i => decide ((chrS p f (dmR p a f) i).1.length ≤ 1000) && decide ((chrS p f (dmR p a f) i).2.length ≤ 1000) && decide ((mlL p (chrS p f (dmR p a f) i).1 (chrS p f (dmR p a f) i).2).length ≤ 2000)
theorem chrB_at {p d : Nat} {a f : List Nat} (h : chrB p d a f = true) : a.length ≤ 1000 ∧ f.length ≤ 1000 ∧ ∀ i, i ≤ d → (chrS p f (dmR p a f) i).1.length ≤ 1000 ∧ (chrS p f (dmR p a f) i).2.length ≤ 1000 ∧ (mlL p (chrS p f (dmR p a f) i).1 (chrS p f (dmR p a f) i).2).length ≤ 2000 := by
  unfold chrB at h
  simp only [Bool.and_eq_true, decide_eq_true_eq, List.all_eq_true, List.mem_range] at h
  obtain ⟨⟨h1, h2⟩, h3⟩ := h
  exact ⟨h1, h2, fun i hi => by
    obtain ⟨⟨a1, a2⟩, a3⟩ := h3 i (by omega)
    exact ⟨a1, a2, a3⟩⟩
def RetLs (w : World) (l : List Nat) (e : Ending) (w' : World) : Prop := ∃ A c, e = .returned (.slice A l.length c) ∧ LS w' w.heap.size w'.heap.size A l ∧ Below w.heap.size w w'

set_option maxRecDepth 100000 in
set_option maxHeartbeats 40000000 in
theorem character_any (p d ca cb : Nat) (A B : Option Addr) (a f : List Nat) (w : World) (ha : LS w 0 w.heap.size A a) (hf : LS w 0 w.heap.size B f) (hp : 1 ≤ p) (hp2 : p ≤ 4294967295) (hd : d ≤ 1000) (hb : chrB p d a f = true) :
    Calls Try.prog 28 #[.int .u32 p, .int .i64 d, .slice A a.length ca, .slice B f.length cb] w (RetLs w (chrL p d a f)) := by
  obtain ⟨b1, b2, b3⟩ := chrB_at hb
  have HBD := Lib.hid b3
  have HF := Lib.hid hf
  have HDM := Lib.hid (dm_call p ca cb A B a f w ha hf (by omega) (by omega))
  have HC : Hid (chrL p d a f = pwL p (chrS p f (dmR p a f) d).1 ((p - 1) / 2) f) := Lib.hid rfl
  have HS0 : Hid (chrS p f (dmR p a f) 0 = ([1], dmR p a f)) := Lib.hid rfl
  have HSN : Hid (∀ i, chrS p f (dmR p a f) (i + 1) = (dmR p (mlL p (chrS p f (dmR p a f) i).1 (chrS p f (dmR p a f) i).2) f, pwL p (chrS p f (dmR p a f) i).2 p f)) := Lib.hid fun i => rfl
  generalize chrL p d a f = CL at HC ⊢
  generalize chrS p f (dmR p a f) = S at HC HS0 HSN HBD
  generalize dmR p a f = X0 at HDM HS0
  generalize dmQ p a f = Q0 at HDM
  clear ha hf hb b3
  go_enter Try.func28, Try.ntmps28
  go_wp2_with fail
  refine HDM.out.mono ?_
  rintro e w1 ⟨A1, c1, A2, c2, E, rfl, hq, hr, hb1⟩
  have HB1 := Lib.hid hb1
  have HX := Lib.hid hr.fresh
  have HF1 := Lib.hid (HF.out.next hb1)
  have hz1 := hb1.size
  clear hq hr hb1 HDM
  go_wp2_with fail
  have HO1 : Hid (LS (w1.alloc (.cells #[.int .u32 1] 22)) 0 (w1.alloc (.cells #[.int .u32 1] 22)).heap.size (some ⟨w1.heap.size, 0, none⟩) [1]) := Lib.hid (sq_list .u32 w1 22 0 _ [1] (Nat.zero_le _) (by simp))
  have hba : Below w1.heap.size w1 (w1.alloc (.cells #[.int .u32 1] 22)) := (Below.refl _ w1).alloc (Nat.le_refl _) _
  have HBA := Lib.hid hba
  have HX1 := Lib.hid (HX.out.next hba)
  clear hba
  go_loopw [10, 12, 25] (fun X O I w' => ∃ (i : Nat) (AX AO : Option Addr) (cX cO : Nat), i ≤ d ∧ I = .int .i64 (i : Int) ∧ X = .slice AX (S i).2.length cX ∧ O = .slice AO (S i).1.length cO ∧ LS w' 0 w'.heap.size AX (S i).2 ∧ LS w' 0 w'.heap.size AO (S i).1 ∧ Below w1.heap.size w1 w') (fun _ _ I _ => d - (intOf I).toNat)
  case atStart => exact ⟨0, _, _, _, _, Nat.zero_le _, rfl, by rw [HS0.out], by rw [HS0.out]; rfl, by rw [HS0.out]; exact HX1.out, by rw [HS0.out]; exact HO1.out, HBA.out⟩
  case round =>
    clear HO1 HBA HX1
    obtain ⟨i, AX, AO, cX, cO, hi, rfl, rfl, rfl, hx, ho, hbl⟩ := hrel
    have HXi := Lib.hid hx
    have HOi := Lib.hid ho
    have HBL := Lib.hid hbl
    obtain ⟨q1, q2, q3⟩ := HBD.out i hi
    have hzr := hbl.size
    have HFR := Lib.hid ((HF1.out.below hbl (Nat.le_refl _)).wide (Nat.le_refl _) hzr)
    clear hx ho hbl
    by_cases hid : i < d
    · have e1 : decide ((i : Int) < (d : Int)) = true := decide_eq_true (by omega)
      have HM := Lib.hid (ml_call p cO cX AO AX (S i).1 (S i).2 wr HOi.out HXi.out (by omega) (by omega))
      obtain ⟨ML, hML⟩ : ∃ x, mlL p (S i).1 (S i).2 = x := ⟨_, rfl⟩
      have HN1 := Lib.hid (HSN.out i)
      rw [hML] at HM HN1 q3
      clear hML
      go_wp2_with fail
      refine HM.out.mono ?_
      rintro e w2 ⟨A3, c3, E3, rfl, _, h3, hb2⟩
      have HP2 := Lib.hid h3.fresh
      have HF2 := Lib.hid (HFR.out.next hb2)
      have HX2 := Lib.hid (HXi.out.next hb2)
      have HB2 := Lib.hid (HBL.out.trans (hb2.mono hzr))
      have HD2 := Lib.hid (dm_call p c3 cb A3 B ML f w2 HP2.out HF2.out (by omega) (by omega))
      clear h3 hb2 HM
      go_wp2_with fail
      refine HD2.out.mono ?_
      rintro e w3 ⟨A4, c4, A5, c5, E4, rfl, _, h5, hb3⟩
      have HO3 := Lib.hid h5.fresh
      have HF3 := Lib.hid (HF2.out.next hb3)
      have HX3 := Lib.hid (HX2.out.next hb3)
      have HB3 := Lib.hid (HB2.out.trans (hb3.mono HB2.out.size))
      have HP3 := Lib.hid (pw_call p cX cb p AX B (S i).2 f w3 HX3.out HF3.out (by omega) (by omega) (by omega))
      clear h5 hb3 HD2
      go_wp2_with fail
      refine HP3.out.mono ?_
      rintro e w4 ⟨A6, c6, E6, rfl, _, h6, hb4⟩
      have HB4 := Lib.hid (HB3.out.trans (hb4.mono HB3.out.size))
      have HO4 := Lib.hid (HO3.out.next hb4)
      have HX4 := Lib.hid h6.fresh
      clear h6 hb4 HP3
      go_wp2
      go_roundw
      case rel => exact ⟨i + 1, A6, A5, c6, c5, hid, by go_num, by rw [HN1.out], by rw [HN1.out], by rw [HN1.out]; exact HX4.out, by rw [HN1.out]; exact HO4.out, HB4.out⟩
      case measure => simp only [intOf]; omega
    · obtain rfl : d = i := by omega
      have e1 : decide ((d : Int) < (d : Int)) = false := decide_eq_false (by omega)
      have hpd : ((p : Int) - 1).tdiv 2 = (((p - 1) / 2 : Nat) : Int) := by rw [show (p : Int) - 1 = ((p - 1 : Nat) : Int) by omega, Int.tdiv_eq_ediv_of_nonneg (by omega)]; rfl
      have hpd2 : ((p : Int) - 1) / 2 = (((p - 1) / 2 : Nat) : Int) := by omega
      have HPW := Lib.hid (pw_call p cO cb ((p - 1) / 2) AO B (S d).1 f wr HOi.out HFR.out (by omega) (by omega) (by omega))
      go_wp2_with fail
      refine HPW.out.mono ?_
      rintro e w4 ⟨A6, c6, E6, rfl, _, h6, hb4⟩
      have HL6 := Lib.hid (h6.wide (show w.heap.size ≤ wr.heap.size by omega) (Nat.le_refl _))
      have HB4 := Lib.hid (HB1.out.trans ((HBL.out.trans (hb4.mono hzr)).mono hz1))
      clear h6 hb4
      go_wp2
      go_ret
      rw [HC.out]
      exact ⟨A6, c6, rfl, HL6.out, HB4.out⟩
end Go.Proofs.Ytkklacgoeopekaa
