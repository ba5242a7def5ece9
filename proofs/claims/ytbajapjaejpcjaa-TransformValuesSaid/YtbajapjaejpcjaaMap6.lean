/- The contracts of short and Forward. -/
import Derived.Test.YtbajapjaejpcjaaCycB
import Derived.Test.YtbajapjaejpcjaaChk6
import Derived.Test.YtbajapjaejpcjaaNew6
import Derived.Test.YtbajapjaejpcjaaSmall6
namespace Go.Proofs.Ytbajapjaejpcjaa
open Go.RowKit
set_option linter.unusedVariables false

theorem e64 : ElemOf Try.prog 52 39 .u64 8 := ⟨Try.underlying52, by kernel_rfl⟩

/-- a new list of its own -/
def RetRow (w : World) (m : Nat) (F : Nat → Nat) (e : Ending) (w' : World) : Prop := ∃ b', e = .returned (.slice (some ⟨b', 0, none⟩) m m) ∧ w.heap.size ≤ b' ∧ w'.rowIs b' 22 m (ku .u32 F) ∧ Below w.heap.size w w'
set_option maxHeartbeats 1000000 in
theorem short_any (A : Option Addr) (m c lo hi : Nat) (a : Nat → Nat) (w : World) (h : Sq .u64 w lo hi A m a) (hm : m ≤ 1000) (ha : ∀ i, a i ≤ 4294967295) (hhi : hi ≤ w.heap.size) :
    Calls Try.prog 27 #[.slice A m c] w (RetRow w m a) := by
  have HA := Lib.hid h
  have HB := Lib.hid ha
  clear h ha
  go_enter Try.func27, Try.ntmps27
  go_wp2_with (at_make; refine wpl_make rfl _ _ _ rfl e32 .i64 .i64 _ _ m rfl rfl rfl rfl (by omega) (by unfold maxLen; omega) ?_; intro w1 hr1 hb1 hs1)
  have HR := Lib.hid hr1
  clear hr1
  go_loopw [11] (fun I wr => ∃ i : Nat, I = .int .i64 (i : Int) ∧ i ≤ m ∧ wr.rowIs w.heap.size 22 m (ku .u32 fun k => if k < i then a k else 0) ∧ Below w.heap.size w wr) (fun I _ => m - (intOf I).toNat)
  case atStart => exact ⟨0, rfl, Nat.zero_le _, HR.out.congr fun k _ => rfl, hb1⟩
  case round =>
    clear hb1 HR hs1
    obtain ⟨i, rfl, him, hrow, hbl⟩ := hrel
    by_cases hin : i < m
    · obtain ⟨g, off, rfl, _, hg, hcell⟩ := HA.out.2 (by omega)
      have k1 := (hbl.cell (p := ⟨g, off + i, none⟩) (by show g < _; omega)).trans (hcell i hin)
      have hx := HB.out i
      obtain ⟨x, e1⟩ : ∃ x, a i = x := ⟨_, rfl⟩
      rw [e1] at k1 hx
      have k3 := hrow.cell hin
      simp only [ku] at k3
      rw [if_neg (by omega)] at k3
      have f3 := hrow.frozen i
      have HE1 := Lib.hid e1
      have HROW := Lib.hid hrow
      clear e1 hrow hcell
      go_wp2
      go_roundw
      case rel => exact ⟨i + 1, by go_num, hin, (rowIs_set_ku HROW.out i x).congr fun k _ => by simp only [ku]; rw [row_next (f := a) HE1.out], hbl.setCell (p := ⟨w.heap.size, i, none⟩) (Nat.le_refl _) _⟩
      case measure => simp only [intOf]; omega
    · obtain rfl : m = i := by omega
      have hsq : wr.rowIs w.heap.size 22 m (ku .u32 a) := hrow.congr fun k hk => by simp only [ku, if_pos hk]
      have HS := Lib.hid hsq
      clear hrow hsq
      go_wp2
      go_ret
      exact ⟨_, rfl, Nat.le_refl _, HS.out, hbl⟩

/-- what a table knows of itself -/
structure Good (n q ψ s : Nat) : Prop where
  dim : n = 2 ∨ n = 4 ∨ n = 8 ∨ n = 16 ∨ n = 32
  rt : Rt q n ψ
  q31 : q ≤ 2147483647
  sh : Cg q ((s : Int) * n) 1
  sq : s < q
  psi : ψ < q
theorem Good.two {n q ψ s : Nat} (h : Good n q ψ s) : ∃ j, n = 2 ^ j := by
  rcases h.dim with rfl | rfl | rfl | rfl | rfl
  · exact ⟨1, rfl⟩
  · exact ⟨2, rfl⟩
  · exact ⟨3, rfl⟩
  · exact ⟨4, rfl⟩
  · exact ⟨5, rfl⟩
theorem Good.nb {n q ψ s : Nat} (h : Good n q ψ s) : 2 ≤ n ∧ n ≤ 32 := by have := h.dim; omega
theorem pwF_le {n q ψ s : Nat} (h : Good n q ψ s) (i : Nat) : pwF q n ψ i ≤ 4294967295 := by
  unfold pwF
  split
  · have := Nat.mod_lt (ψ ^ i) (show 0 < q by have := h.rt.pr.1; omega)
    have := h.q31
    omega
  · omega
theorem pwF_front {n q ψ s k : Nat} (h : Good n q ψ s) : pwF q n ψ (k % (2 * n)) = ψ ^ k % q := by
  unfold pwF
  rw [if_pos (Nat.mod_lt _ (by have := h.nb; omega)), h.rt.front]
theorem pwF_back {n q ψ s k : Nat} (h : Good n q ψ s) : pwF q n ψ ((2 * n - k % (2 * n)) % (2 * n)) = (ψ ^ (2 * n - 1)) ^ k % q := by
  unfold pwF
  rw [if_pos (Nat.mod_lt _ (by have := h.nb; omega)), h.rt.back]

/-- what Forward, Inverse and Mul leave -/
def RetL (w : World) (C : Prop) (n : Nat) (F : Nat → Nat) (e : Ending) (w' : World) : Prop :=
  Below w.heap.size w w' ∧ ((¬ C ∧ e = .returned (.tuple #[.slice none 0 0, .int .i64 2])) ∨
    (C ∧ ∃ b', e = .returned (.tuple #[.slice (some ⟨b', 0, none⟩) n n, .int .i64 0]) ∧ w.heap.size ≤ b' ∧ w'.rowIs b' 22 n (ku .u32 F)))
def Okl (n q m : Nat) (a : Nat → Nat) : Prop := m = n ∧ ∀ j, j < n → a j < q
theorem Ok6.one {n q m : Nat} {a : Nat → Nat} : Ok6 n q 1 (fun _ => m) (fun _ => a) ↔ Okl n q m a :=
  ⟨fun h => h 0 Nat.one_pos, fun h i _ => h⟩

set_option maxRecDepth 100000 in
set_option maxHeartbeats 4000000 in
theorem forward_any (b n q ψ s m c lo hi : Nat) (A : Option Addr) (a : Nat → Nat) (w : World) (hg : Good n q ψ s) (ht : Tb w b n q (pwF q n ψ) s) (ha : Sq .u32 w lo hi A m a) (hm : m ≤ 9223372036854775807) (hab : ∀ i, a i ≤ 4294967295) (hhi : hi ≤ w.heap.size) :
    Calls Try.prog 14 #[.pointer (some ⟨b, 0, none⟩), .slice A m c] w (RetL w (Okl n q m a) n (fwd q n ψ a)) := by
  obtain ⟨hn2, hn32⟩ := hg.nb
  have hq2 := hg.rt.pr.1
  have hq31 := hg.q31
  have hbl1 : Below w.heap.size w (w.alloc (.cells #[.slice A m c] 27)) := (Below.refl _ w).alloc (Nat.le_refl _) _
  have hcs : Cs (w.alloc (.cells #[.slice A m c] 27)) w.heap.size 1 (fun _ => A) (fun _ => m) (fun _ => c) := Cs.one_ (by rw [World.cell?_alloc_new]; rfl)
  obtain ⟨w1, hw1⟩ : ∃ w1, w1 = w.alloc (.cells #[.slice A m c] 27) := ⟨_, rfl⟩
  rw [← hw1] at hbl1 hcs
  have hz1 := hbl1.size
  have hT1 := ht.below hbl1 ht.lt
  have HCHK := Lib.hid (tcheck_any b n q s w.heap.size 1 (pwF q n ψ) (fun _ => A) (fun _ => m) (fun _ => c) (fun _ => a) lo hi w1 hT1 (by omega) hn32 hq31 hcs (fun _ _ => ha.below hbl1 hhi) (fun _ _ => hm) (fun _ => hab) (by omega) 1)
  have HG := Lib.hid hg
  have HT := Lib.hid hT1
  have HA := Lib.hid (ha.below hbl1 hhi)
  have HAB := Lib.hid hab
  have HW1 := Lib.hid hw1
  clear hg ht hcs hT1 ha hab hw1
  go_enter Try.func14, Try.ntmps14
  go_wp2_with fail
  rw [← HW1.out]
  (with_reducible refine HCHK.out.mono ?_)
  rintro e w2 ⟨rfl, hh⟩
  rcases hh with ⟨hok, rfl⟩ | ⟨hok, rfl⟩
  rotate_left
  · rw [Ok6.one] at hok
    have HOK := Lib.hid hok
    clear hok
    go_wp2_with fail
    go_ret2
    exact ⟨hbl1, .inl ⟨HOK.out, rfl⟩⟩
  rw [Ok6.one] at hok
  have HOK := Lib.hid hok
  obtain ⟨hmn, _⟩ := hok
  have hn0 : ¬ n = 0 := by omega
  have c1 := HT.out.cN
  have hmi : (m : Int) = (n : Int) := by omega
  subst hmn
  clear hmi
  go_wp2_with (at_make; refine wpl_make rfl _ _ _ rfl e64 .i64 .i64 _ _ m rfl rfl rfl rfl (by omega) (by unfold maxLen; omega) ?_; intro w3 hr3 hb3 hs3)
  have HR := Lib.hid hr3
  clear hr3
  have hbw1 : w1.heap.size = w.heap.size + 1 := by rw [HW1.out, World.size_alloc]
  have HBW1 := Lib.hid hbw1
  clear hbw1
  go_loopw [24] (fun I wr => ∃ i : Nat, I = .int .i64 (i : Int) ∧ i ≤ m ∧ wr.rowIs w1.heap.size 39 m (ku .u64 fun k => if k < i then a k * (ψ ^ k % q) % q else 0) ∧ Below w1.heap.size w1 wr) (fun I _ => m - (intOf I).toNat)
  case atStart => exact ⟨0, rfl, Nat.zero_le _, HR.out.congr fun k _ => rfl, hb3⟩
  case round =>
    clear hb3 HR hs3 c1
    obtain ⟨i, rfl, him, hrow, hbl⟩ := hrel
    by_cases hin : i < m
    · obtain ⟨g, off, rfl, _, hgl, hcell⟩ := HA.out.2 (by omega)
      have k1 := (hbl.cell (p := ⟨g, off + i, none⟩) (by show g < _; omega)).trans (hcell i hin)
      have hxq := HOK.out.2 i hin
      obtain ⟨x, e1⟩ : ∃ x, a i = x := ⟨_, rfl⟩
      rw [e1] at k1 hxq
      have hTr := HT.out.below hbl HT.out.lt
      have k3 := hTr.cQ
      have hcall := fun (V : World) (hV : Tb V b m q (pwF q m ψ) s) => tpower_any b m q i s (pwF q m ψ) V hV (by omega) hn32 (by omega) (pwF_le HG.out)
      rw [pwF_front HG.out] at hcall
      obtain ⟨pw, hpw⟩ : ∃ pw, ψ ^ i % q = pw := ⟨_, rfl⟩
      have hpq : pw < q := by rw [← hpw]; exact Nat.mod_lt _ (by omega)
      rw [hpw] at hcall
      have HCALL := Lib.hid (hcall wr.drew ⟨hTr.cN, hTr.cQ, hTr.cP, hTr.cS, hTr.lt⟩)
      obtain ⟨mm, hmm⟩ : ∃ mm, x * pw = mm := ⟨_, rfl⟩
      have hmi : (x : Int) * (pw : Int) = (mm : Int) := by rw [← hmm]; simp
      have hmb : mm ≤ 4611686009837453316 := by rw [← hmm]; exact mul_lt_of hxq hpq hq31
      obtain ⟨y, hy⟩ : ∃ y, mm % q = y := ⟨_, rfl⟩
      have hyi : (mm : Int) % (q : Int) = (y : Int) := by rw [← hy]; simp
      have hyit : (mm : Int).tmod (q : Int) = (y : Int) := by rw [Int.tmod_eq_emod_of_nonneg (by omega), hyi]
      have hyq : y < q := by rw [← hy]; exact Nat.mod_lt _ (by omega)
      have HY : Hid (a i * (ψ ^ i % q) % q = y) := Lib.hid (by rw [e1, hpw, hmm, hy])
      have k4 := hrow.cell hin
      simp only [ku] at k4
      rw [if_neg (by omega)] at k4
      have f4 := hrow.frozen i
      have hq0 : ¬ q = 0 := by omega
      have HROW := Lib.hid hrow
      clear e1 hrow hcell hcall hpw hmm hy hTr
      go_wp2
      go_region_with (go_at_call 26; refine HCALL.out.mono ?_; rintro e w12 ⟨rfl, d, rfl⟩)
      all_goals
        go_wp2
        go_roundw
        case rel =>
          have hv : (x : Int) * (pw : Int) % (q : Int) = (y : Int) := by rw [hmi, hyi]
          try rw [hv]
          refine ⟨i + 1, by go_num, hin, (rowIs_set_ku (w := wr.drewN (1 + d)) HROW.out i y).congr fun k _ => by simp only [ku]; rw [row_next (f := fun k => a k * (ψ ^ k % q) % q) HY.out], ?_⟩
          exact (below_drewN hbl (1 + d)).setCell (p := ⟨w1.heap.size, i, none⟩) (Nat.le_refl _) _
        case measure => simp only [intOf]; omega
    · obtain rfl : m = i := by omega
      have hTr := HT.out.below hbl HT.out.lt
      obtain ⟨j, hj⟩ := HG.out.two
      have hx : Sq .u64 wr 0 wr.heap.size (some ⟨w1.heap.size, 0, none⟩) m (fun k => if k < m then a k * (ψ ^ k % q) % q else 0) := Sq.of_row hrow (Nat.le_refl _) (Nat.zero_le _) hrow.lt (fun k hk => if_neg (by omega)) fun k hk => rfl
      have HCY := Lib.hid (tcycP_any b m q s ψ (pwF q m ψ) (by omega) hn32 hq2 hq31 (pwF_le HG.out) (fun k _ => pwF_front HG.out) HG.out.rt.neg j m 1 hj (Nat.one_mul m) (some ⟨w1.heap.size, 0, none⟩) m 0 wr.heap.size _ wr hTr hx (fun k => by
        have hq : 0 < q := by omega
        split
        · exact Nat.mod_lt _ hq
        · exact hq) (Nat.le_refl _))
      have hzr := hbl.size
      clear hrow hx hj hTr
      go_wp2_with fail
      refine HCY.out.mono ?_
      rintro e w5 ⟨A5, c5, rfl, _, hs5, hb5⟩
      have hz5 := hb5.size
      have hb15 := hbl.trans (hb5.mono hzr)
      have HS := Lib.hid (short_any A5 m c5 0 w5.heap.size _ w5 hs5 (by omega) (fun k => by
        unfold trF
        split
        · have := cyF_lt (q := q) (ω := ψ) (step := 1) (m := m) (a := fun k => if k < m then a k * (ψ ^ k % q) % q else 0) (by omega) k
          omega
        · omega) (Nat.le_refl _))
      clear hs5
      go_wp2_with fail
      refine HS.out.mono ?_
      rintro e w6 ⟨b6, rfl, hbg6, hr6, hb6⟩
      go_wp2_with fail
      go_ret2
      have hz1' := hbl1.size
      refine ⟨hbl1.trans ((hb15.trans (hb6.mono (by omega))).mono (by omega)), .inr ⟨HOK.out, b6, rfl, by omega, hr6.congr fun k hk => ?_⟩⟩
      simp only [ku, trF, if_pos hk]
      rw [fwd_cyF (by omega) hk fun i hi => if_pos hi]
end Go.Proofs.Ytbajapjaejpcjaa
