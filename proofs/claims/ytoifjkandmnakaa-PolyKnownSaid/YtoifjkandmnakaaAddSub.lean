/- The contracts of poly.Check, Add, Sub and of the reference's Add, Sub, Mul. -/
import Derived.Test.YtoifjkandmnakaaLawKit
import Derived.Test.YtoifjkandmnakaaCombine
namespace Go.Proofs.Ytoifjkandmnakaa
open Go.RowKit

def okF (er : Nat) (F : Nat → Nat) : Nat → Nat := if er = 0 then F else fun _ => 0
/-- a new list, if there is no error; its length has no zeros at the end -/
def RetE (w : World) (N : Nat) (F : Nat → Nat) (er : Nat) : Ending → World → Prop := RetSlE w (tl (okF er F) N) (okF er F) er

theorem retE_err {w w' : World} {N x : Nat} {F : Nat → Nat} (h0 : x ≠ 0) (hb : Below w.heap.size w w') : RetE w N F x (.returned (.tuple #[.slice none 0 0, .int .i64 (x : Int)])) w' := by
  have e1 : okF x F = fun _ => 0 := by unfold okF; rw [if_neg h0]
  unfold RetE
  rw [e1, tl_zeros (fun _ => rfl)]
  exact ⟨none, 0, rfl, Nat.le_refl _, Sq.nil _ _ _ _ _, hb⟩
theorem retE_ok {w w0 w' : World} {N N' : Nat} {F F' : Nat → Nat} {x : Value} (hF : F' = F) (hN : tl F N' = tl F N) (hb : Below w.heap.size w w0) (h : RetSl w0 (tl F' N') F' (.returned x) w') :
    RetE w N F 0 (.returned (.tuple #[x, .int .i64 0])) w' := by
  subst hF
  rw [hN] at h
  have e1 : okF 0 F' = F' := by unfold okF; rw [if_pos rfl]
  unfold RetE
  rw [e1]
  obtain ⟨A, c, he, h1, h2, h3⟩ := h
  injection he with he
  subst he
  exact ⟨A, c, rfl, h1, h2.wide hb.size (Nat.le_refl _), hb.trans (h3.mono hb.size)⟩

theorem combF_one (m : Nat) (a b : Nat → Nat) : combF m a b 1 = addF m a b := by
  funext j
  unfold combF addF
  rw [Nat.mul_one]
theorem mod_cancel {p q z m : Nat} (h : (p + z) % m = (q + z) % m) : p % m = q % m := by
  rcases Nat.eq_zero_or_pos m with h0 | h0
  · subst h0
    simp only [Nat.mod_zero] at h ⊢
    omega
  · obtain ⟨k, rfl⟩ : ∃ k, m = k + 1 := ⟨m - 1, by omega⟩
    have e : ∀ x, x % (k + 1) = ((x + z) % (k + 1) + z * k) % (k + 1) := fun x => by
      have e1 : x + z + z * k = x + z * (k + 1) := by rw [Nat.mul_add, Nat.mul_one]; omega
      rw [Nat.add_mod ((x + z) % (k + 1)), Nat.mod_mod, ← Nat.add_mod, e1, Nat.add_mul_mod_self_right]
    rw [e p, e q, h]
theorem combF_neg {m : Nat} {a b : Nat → Nat} (hm : 0 < m) (hb : ∀ j, b j < m) : combF m a b (m - 1) = subF m a b := by
  funext j
  unfold combF subF
  have hbj := hb j
  refine mod_cancel (z := b j) ?_
  obtain ⟨k, rfl⟩ : ∃ k, m = k + 1 := ⟨m - 1, by omega⟩
  rw [Nat.add_sub_cancel, show a j + b j * k + b j = a j + b j * (k + 1) from by rw [Nat.mul_add, Nat.mul_one]; omega, show a j + (k + 1) - b j + b j = a j + (k + 1) from by omega, Nat.add_mul_mod_self_right, Nat.add_mod_right]

theorem check1_call (m n ca : Nat) (A : Option Addr) (a : Nat → Nat) (w : World) (lo hi : Nat) (ha : Sq .u32 w lo hi A n a) (hn : n ≤ 9223372036854775807) (hhi : hi ≤ w.heap.size) (W : World) (hW : W = w.alloc (.cells #[.slice A n ca] 23)) :
    Calls Try.prog 44 #[.int .u32 m, .slice (some ⟨w.heap.size, 0, none⟩) 1 1] W (fun e w' => e = .returned (.int .i64 (chk m n a : Nat)) ∧ Below w.heap.size w w') := by
  subst hW
  have hbel := (Below.refl w.heap.size w).alloc (Nat.le_refl _) (.cells #[.slice A n ca] 23)
  exact (valid1_any m w.heap.size n ca A a _ lo hi (by rw [World.cell?_alloc_new]; rfl) (ha.below hbel hhi) hn).mono fun e w' h => ⟨h.1, hbel.trans (h.2.mono (by simp))⟩

set_option maxHeartbeats 400000 in
theorem pcheck_any (m n ca : Nat) (A : Option Addr) (a : Nat → Nat) (w : World) (lo hi : Nat) (ha : Sq .u32 w lo hi A n a) (hn : n ≤ 9223372036854775807) (hhi : hi ≤ w.heap.size) :
    Calls Try.prog 23 #[.int .u32 m, .slice A n ca] w (RetV w (.int .i64 (chk m n a : Nat))) := by
  have HV := Lib.hid (check1_call m n ca A a w lo hi ha hn hhi)
  clear ha
  go_enter Try.func23, Try.ntmps23
  go_wp2_with fail
  refine (HV.out _ rfl).mono ?_
  rintro e w1 ⟨rfl, hbel1⟩
  go_wp2
  go_ret
  exact ⟨rfl, hbel1⟩

theorem ok2 {m n nb : Nat} {a b : Nat → Nat} (hc : chk2 m n a nb b = 0) (ha : ∀ j, n ≤ j → a j = 0) (hb : ∀ j, nb ≤ j → b j = 0) : 2 ≤ m ∧ m ≤ 2147483647 ∧ n ≤ 256 ∧ nb ≤ 256 ∧ (∀ j, a j < m) ∧ (∀ j, b j < m) ∧ tl a n = n ∧ tl b nb = nb := by
  obtain ⟨hc1, hc2⟩ := chk2_zero hc
  obtain ⟨m1, m2, n1, n2, n3⟩ := chk_zero hc1
  obtain ⟨_, _, b1, b2, b3⟩ := chk_zero hc2
  exact ⟨m1, m2, n1, b1, vals_lt hc1 ha, vals_lt hc2 hb, tl_of_last n3, tl_of_last b3⟩

set_option maxHeartbeats 1000000 in
theorem add_any (m n nb ca cb : Nat) (A B : Option Addr) (a b : Nat → Nat) (w : World) (lo hi : Nat) (ha : Sq .u32 w lo hi A n a) (hb : Sq .u32 w lo hi B nb b) (hn : n ≤ 9223372036854775807) (hnb : nb ≤ 9223372036854775807) (hhi : hi ≤ w.heap.size) :
    Calls Try.prog 28 #[.int .u32 m, .slice A n ca, .slice B nb cb] w (RetE w (max n nb) (addF m a b) (chk2 m n a nb b)) := by
  have HV := Lib.hid (valid2_call m n nb ca cb A B a b w lo hi ha hb hn hnb hhi)
  by_cases hc : chk2 m n a nb b = 0
  · rw [hc] at HV ⊢
    obtain ⟨m1, m2, n1, b1, haa, hbb, _, _⟩ := ok2 hc ha.1 hb.1
    have HA := Lib.hid (And.intro ha hb)
    have HAB := Lib.hid (And.intro haa hbb)
    clear hc ha hb haa hbb
    go_enter Try.func28, Try.ntmps28
    go_wp2_with fail
    refine (HV.out _ rfl).mono ?_
    rintro e w1 ⟨rfl, hbel1⟩
    go_wp2_with fail
    refine (combine_any m 1 n nb ca cb A B a b w1 lo hi (HA.out.1.below hbel1 hhi) (HA.out.2.below hbel1 hhi) (by omega) m2 (by omega) HAB.out.1 HAB.out.2 (by omega) (by omega) (by have := hbel1.size; omega)).mono ?_
    rintro e w3 ⟨A1, c1, rfl, hr⟩
    have HR := Lib.hid hr
    clear hr
    go_wp2
    go_ret2
    exact retE_ok (combF_one m a b) rfl hbel1 ⟨A1, c1, rfl, HR.out⟩
  · obtain ⟨x, hx⟩ : ∃ x, chk2 m n a nb b = x := ⟨_, rfl⟩
    rw [hx] at HV hc ⊢
    have hxz : ((x : Int) != 0) = true := by simp; omega
    clear hx ha hb
    go_enter Try.func28, Try.ntmps28
    go_wp2_with fail
    refine (HV.out _ rfl).mono ?_
    rintro e w1 ⟨rfl, hbel1⟩
    go_wp2
    go_ret2
    exact retE_err hc hbel1

set_option maxHeartbeats 1000000 in
theorem psub_any (m n nb ca cb : Nat) (A B : Option Addr) (a b : Nat → Nat) (w : World) (lo hi : Nat) (ha : Sq .u32 w lo hi A n a) (hb : Sq .u32 w lo hi B nb b) (hn : n ≤ 9223372036854775807) (hnb : nb ≤ 9223372036854775807) (hhi : hi ≤ w.heap.size) :
    Calls Try.prog 29 #[.int .u32 m, .slice A n ca, .slice B nb cb] w (RetE w (max n nb) (subF m a b) (chk2 m n a nb b)) := by
  have HV := Lib.hid (valid2_call m n nb ca cb A B a b w lo hi ha hb hn hnb hhi)
  by_cases hc : chk2 m n a nb b = 0
  · rw [hc] at HV ⊢
    obtain ⟨m1, m2, n1, b1, haa, hbb, _, _⟩ := ok2 hc ha.1 hb.1
    have HA := Lib.hid (And.intro ha hb)
    have HAB := Lib.hid (And.intro haa hbb)
    have HM := Lib.hid (show (m : Int) - 1 = ((m - 1 : Nat) : Int) by omega)
    clear hc ha hb haa hbb
    go_enter Try.func29, Try.ntmps29
    go_wp2_with fail
    refine (HV.out _ rfl).mono ?_
    rintro e w1 ⟨rfl, hbel1⟩
    go_wp2_with fail
    rw [HM.out]
    refine (combine_any m (m - 1) n nb ca cb A B a b w1 lo hi (HA.out.1.below hbel1 hhi) (HA.out.2.below hbel1 hhi) (by omega) m2 (by omega) HAB.out.1 HAB.out.2 (by omega) (by omega) (by have := hbel1.size; omega)).mono ?_
    rintro e w3 ⟨A1, c1, rfl, hr⟩
    have HR := Lib.hid hr
    clear hr
    go_wp2
    go_ret2
    exact retE_ok (combF_neg (by omega) HAB.out.2) rfl hbel1 ⟨A1, c1, rfl, HR.out⟩
  · obtain ⟨x, hx⟩ : ∃ x, chk2 m n a nb b = x := ⟨_, rfl⟩
    rw [hx] at HV hc ⊢
    have hxz : ((x : Int) != 0) = true := by simp; omega
    clear hx ha hb
    go_enter Try.func29, Try.ntmps29
    go_wp2_with fail
    refine (HV.out _ rfl).mono ?_
    rintro e w1 ⟨rfl, hbel1⟩
    go_wp2
    go_ret2
    exact retE_err hc hbel1

set_option maxHeartbeats 1000000 in
theorem rsub_any (m n nb ca cb : Nat) (A B : Option Addr) (a b : Nat → Nat) (w : World) (lo hi : Nat) (ha : Sq .u32 w lo hi A n a) (hb : Sq .u32 w lo hi B nb b) (hn : n ≤ 9223372036854775807) (hnb : nb ≤ 9223372036854775807) (hhi : hi ≤ w.heap.size) :
    Calls Try.prog 31 #[.int .u32 m, .slice A n ca, .slice B nb cb] w (RetE w (max n nb) (subF m a b) (chk2 m n a nb b)) := by
  have HV := Lib.hid (both_any m n nb ca cb A B a b w lo hi lo hi ha hb hn hnb hhi)
  by_cases hc : chk2 m n a nb b = 0
  · rw [hc] at HV ⊢
    obtain ⟨m1, m2, n1, b1, haa, hbb, _, _⟩ := ok2 hc ha.1 hb.1
    have HA := Lib.hid (And.intro ha hb)
    have HAB := Lib.hid (And.intro haa hbb)
    clear hc ha hb haa hbb
    go_enter Try.func31, Try.ntmps31
    go_wp2_with fail
    refine HV.out.mono ?_
    rintro e w1 ⟨rfl, hbel1⟩
    go_wp2_with fail
    refine (minus_any m n nb ca cb A B a b w1 lo hi lo hi (HA.out.1.below hbel1 hhi) (HA.out.2.below hbel1 hhi) (by omega) m2 HAB.out.1 HAB.out.2 (by omega) (by omega) (by have := hbel1.size; omega) (by have := hbel1.size; omega)).mono ?_
    rintro e w3 ⟨A1, c1, rfl, hr⟩
    have HR := Lib.hid hr
    clear hr
    go_wp2
    go_ret2
    exact retE_ok rfl rfl hbel1 ⟨A1, c1, rfl, HR.out⟩
  · obtain ⟨x, hx⟩ : ∃ x, chk2 m n a nb b = x := ⟨_, rfl⟩
    rw [hx] at HV hc ⊢
    have hxz : ((x : Int) != 0) = true := by simp; omega
    clear hx ha hb
    go_enter Try.func31, Try.ntmps31
    go_wp2_with fail
    refine HV.out.mono ?_
    rintro e w1 ⟨rfl, hbel1⟩
    go_wp2
    go_ret2
    exact retE_err hc hbel1

set_option maxHeartbeats 1000000 in
theorem rmul_any (m n nb ca cb : Nat) (A B : Option Addr) (a b : Nat → Nat) (w : World) (lo hi : Nat) (ha : Sq .u32 w lo hi A n a) (hb : Sq .u32 w lo hi B nb b) (hn : n ≤ 9223372036854775807) (hnb : nb ≤ 9223372036854775807) (hhi : hi ≤ w.heap.size) :
    Calls Try.prog 32 #[.int .u32 m, .slice A n ca, .slice B nb cb] w (RetMl w m n a nb b) := by
  have HV := Lib.hid (both_any m n nb ca cb A B a b w lo hi lo hi ha hb hn hnb hhi)
  by_cases hc : chk2 m n a nb b = 0
  · rw [hc] at HV
    obtain ⟨m1, m2, n1, b1, haa, hbb, _, _⟩ := ok2 hc ha.1 hb.1
    have HA := Lib.hid (And.intro ha hb)
    have HAB := Lib.hid (And.intro haa hbb)
    have HC := Lib.hid hc
    clear hc ha hb haa hbb
    by_cases hl : 0 < n ∧ 0 < nb ∧ 257 < n + nb
    · obtain ⟨l1, l2, l3⟩ := hl
      have hE : mlE m n a nb b = 3 := by unfold mlE; rw [if_pos HC.out, if_pos ⟨l1, l2, l3⟩]
      have HE := Lib.hid hE
      have hd : decide ((n : Int) + (nb : Int) > 257) = true := decide_eq_true (by omega)
      clear hE
      go_enter Try.func32, Try.ntmps32
      go_wp2_with fail
      refine HV.out.mono ?_
      rintro e w1 ⟨rfl, hbel1⟩
      go_wp2
      go_ret2
      exact retMl_err HE.out (by decide) hbel1
    · have hE : mlE m n a nb b = 0 := by unfold mlE; rw [if_pos HC.out, if_neg hl]
      have HE := Lib.hid hE
      clear hE
      have hcase : n = 0 ∨ (0 < n ∧ nb = 0) ∨ (0 < n ∧ 0 < nb ∧ n + nb ≤ 257) := by omega
      clear hl
      rcases hcase with h | ⟨h, h'⟩ | ⟨h, h', h''⟩
      · subst h
        go_enter Try.func32, Try.ntmps32
        go_wp2_with fail
        refine HV.out.mono ?_
        rintro e w1 ⟨rfl, hbel1⟩
        go_wp2_with fail
        refine (times_any m 0 nb ca cb A B a b w1 lo hi lo hi (HA.out.1.below hbel1 hhi) (HA.out.2.below hbel1 hhi) (by omega) m2 HAB.out.1 HAB.out.2 (by omega) (by omega) (by have := hbel1.size; omega) (by have := hbel1.size; omega)).mono ?_
        rintro e w3 ⟨A1, c1, rfl, hr⟩
        have HR := Lib.hid hr
        clear hr
        go_wp2
        go_ret2
        exact retMl_ok HE.out hbel1 ⟨A1, c1, by rw [Nat.zero_add]; rfl, HR.out⟩
      · subst h'
        go_enter Try.func32, Try.ntmps32
        go_wp2_with fail
        refine HV.out.mono ?_
        rintro e w1 ⟨rfl, hbel1⟩
        go_wp2_with fail
        refine (times_any m n 0 ca cb A B a b w1 lo hi lo hi (HA.out.1.below hbel1 hhi) (HA.out.2.below hbel1 hhi) (by omega) m2 HAB.out.1 HAB.out.2 (by omega) (by omega) (by have := hbel1.size; omega) (by have := hbel1.size; omega)).mono ?_
        rintro e w3 ⟨A1, c1, rfl, hr⟩
        have HR := Lib.hid hr
        clear hr
        go_wp2
        go_ret2
        exact retMl_ok HE.out hbel1 ⟨A1, c1, rfl, HR.out⟩
      · go_enter Try.func32, Try.ntmps32
        go_wp2_with fail
        refine HV.out.mono ?_
        rintro e w1 ⟨rfl, hbel1⟩
        go_wp2_with fail
        refine (times_any m n nb ca cb A B a b w1 lo hi lo hi (HA.out.1.below hbel1 hhi) (HA.out.2.below hbel1 hhi) (by omega) m2 HAB.out.1 HAB.out.2 (by omega) (by omega) (by have := hbel1.size; omega) (by have := hbel1.size; omega)).mono ?_
        rintro e w3 ⟨A1, c1, rfl, hr⟩
        have HR := Lib.hid hr
        clear hr
        go_wp2
        go_ret2
        exact retMl_ok HE.out hbel1 ⟨A1, c1, rfl, HR.out⟩
  · obtain ⟨x, hx⟩ : ∃ x, chk2 m n a nb b = x := ⟨_, rfl⟩
    have hE : mlE m n a nb b = x := by unfold mlE; rw [if_neg hc, hx]
    rw [hx] at HV hc
    have hxz : ((x : Int) != 0) = true := by simp; omega
    have HE := Lib.hid hE
    clear hx ha hb hE
    go_enter Try.func32, Try.ntmps32
    go_wp2_with fail
    refine HV.out.mono ?_
    rintro e w1 ⟨rfl, hbel1⟩
    go_wp2
    go_ret2
    exact retMl_err HE.out hc hbel1

theorem addF_out {m n nb : Nat} {a b : Nat → Nat} (ha : ∀ j, n ≤ j → a j = 0) (hb : ∀ j, nb ≤ j → b j = 0) (j : Nat) (h1 : n ≤ j) (h2 : nb ≤ j) : addF m a b j = 0 := by
  unfold addF
  rw [ha j h1, hb j h2]
  simp
theorem addF_val {m x y : Nat} : ((x : Int) + (y : Int)) % (m : Int) = (((x + y) % m : Nat) : Int) := by simp

set_option maxHeartbeats 1000000 in
theorem radd_any (m n nb ca cb : Nat) (A B : Option Addr) (a b : Nat → Nat) (w : World) (lo hi : Nat) (ha : Sq .u32 w lo hi A n a) (hb : Sq .u32 w lo hi B nb b) (hn : n ≤ 9223372036854775807) (hnb : nb ≤ 9223372036854775807) (hhi : hi ≤ w.heap.size) :
    Calls Try.prog 30 #[.int .u32 m, .slice A n ca, .slice B nb cb] w (RetE w (max n nb) (addF m a b) (chk2 m n a nb b)) := by
  have HV := Lib.hid (both_any m n nb ca cb A B a b w lo hi lo hi ha hb hn hnb hhi)
  by_cases hc : chk2 m n a nb b = 0
  · rw [hc] at HV ⊢
    obtain ⟨m1, m2, n1, b1, haa, hbb, _, _⟩ := ok2 hc ha.1 hb.1
    obtain ⟨N, hN⟩ : ∃ N, N = max n nb := ⟨_, rfl⟩
    rw [← hN]
    have hN3 : N ≤ 2000 := by omega
    have HO := Lib.hid (addF_out (m := m) ha.1 hb.1)
    clear hc hn hnb
    rcases Nat.lt_or_ge n nb with hlt | hlt
    all_goals
      have hN1 : n ≤ N := by omega
      have hN2 : nb ≤ N := by omega
      have hN4 : N ≤ n ∨ N ≤ nb := by omega
      clear hN
      go_enter Try.func30, Try.ntmps30
      go_wp2_with fail
      refine HV.out.mono ?_
      rintro e w1 ⟨rfl, hbel1⟩
      have hA1 := ha.below hbel1 hhi
      have hB1 := hb.below hbel1 hhi
      have hhi1 := Nat.le_trans hhi hbel1.size
      go_wp2
      go_loopw [9, 10] (fun o i wr => ∃ (k : Nat) (A' : Option Addr) (c' : Nat), k ≤ N ∧ i = .int .i64 k ∧ o = .slice A' k c' ∧ Own .u32 wr w1.heap.size 22 A' k c' (cutF k (addF m a b)) ∧ Below w1.heap.size w1 wr) (fun _ i _ => N - (intOf i).toNat)
      case atStart => exact ⟨0, none, 0, Nat.zero_le _, rfl, rfl, Own.congr (Own.nil _ _ _ _) (fun j => (cutF_out (Nat.zero_le _)).symm), Below.refl _ _⟩
      case round =>
        obtain ⟨k, A', c', hk, rfl, rfl, hown, hbel⟩ := hrel
        have hxm := haa k
        have hym := hbb k
        by_cases hkN : k < N
        · have HA := Lib.hid (at_any A n ca a k wr lo hi (hA1.below hbel hhi1) (by omega) (by omega) (fun j => by have := haa j; omega))
          have HB := Lib.hid (at_any B nb cb b k wr lo hi (hB1.below hbel hhi1) (by omega) (by omega) (fun j => by have := hbb j; omega))
          have hF : addF m a b k = (a k + b k) % m := rfl
          obtain ⟨x, hx⟩ : ∃ x, a k = x := ⟨_, rfl⟩
          obtain ⟨y, hy⟩ : ∃ y, b k = y := ⟨_, rfl⟩
          rw [Int.toNat_natCast, hx] at HA
          rw [Int.toNat_natCast, hy] at HB
          rw [hx, hy] at hF
          rw [hx] at hxm
          rw [hy] at hym
          have hd1 : 0 ≤ ((x : Int) + (y : Int)) % (m : Int) := Int.emod_nonneg _ (by omega)
          have hd2 : ((x : Int) + (y : Int)) % (m : Int) < (m : Int) := Int.emod_lt_of_pos _ (by omega)
          have hV : Value.int .u32 (((x : Int) + (y : Int)) % (m : Int)) = .int .u32 ((addF m a b k : Nat) : Int) := by rw [hF, addF_val]
          have HV2 := Lib.hid hV
          have HO1 := Lib.hid hown
          have hsz := hbel.size
          clear hx hy hF hV hown ha hb haa hbb hA1 hB1
          go_wp2_with (first
            | (go_at_call_of 53 A; refine HA.out.mono ?_; rintro e w' ⟨rfl, rfl⟩)
            | (go_at_call_of 53 B; refine HB.out.mono ?_; rintro e w' ⟨rfl, rfl⟩)
            | (at_builtin; refine wpl_append rfl _ _ _ rfl e32 rfl (HO1.out.alloc _) rfl (sq_one (x := addF m a b k) (lo := 0) (hi := wr.heap.size + 1) HV2.out (Nat.zero_le _) (Nat.lt_succ_self _)) (cutF (k + 1) (addF m a b)) (fun j hj => cutF_lt hj) cutF_add (by unfold maxLen; omega) (by omega) (by simp; omega) ?_; intro A2 c2 w2 hown2 hg2 hb2 hat2))
          go_roundw
          case rel => exact ⟨k + 1, A2, c2, by omega, by go_num, rfl, hown2, (hbel.alloc hsz _).trans hb2⟩
          case measure => simp [intOf]; omega
        · obtain rfl : k = N := by omega
          have hcut : cutF k (addF m a b) = addF m a b := funext (cutF_all fun j hj => HO.out j (by omega) (by omega))
          rw [hcut] at hown
          have HT := Lib.hid (rtrim_any A' k c' (addF m a b) wr _ _ (hown.sq (Nat.le_refl _)) hown.le (by omega))
          have hsz := hbel.size
          clear hcut hown ha hb haa hbb hxm hym hA1 hB1
          go_wp2_with (go_at_call 26; refine HT.out.mono ?_; rintro e w' ⟨A3, c3, rfl, hle3, hsq3, hb3⟩)
          go_ret2
          exact retE_ok rfl rfl hbel1 ⟨A3, c3, rfl, hle3, hsq3.wide hsz (Nat.le_refl _), hbel.trans (hb3.mono hsz)⟩
  · obtain ⟨x, hx⟩ : ∃ x, chk2 m n a nb b = x := ⟨_, rfl⟩
    rw [hx] at HV hc ⊢
    have hxz : ((x : Int) != 0) = true := by simp; omega
    clear hx ha hb
    go_enter Try.func30, Try.ntmps30
    go_wp2_with fail
    refine HV.out.mono ?_
    rintro e w1 ⟨rfl, hbel1⟩
    go_wp2
    go_ret2
    exact retE_err hc hbel1
end Go.Proofs.Ytoifjkandmnakaa
