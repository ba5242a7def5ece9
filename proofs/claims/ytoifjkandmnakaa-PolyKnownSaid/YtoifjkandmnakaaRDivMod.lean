/- The contract of the reference's DivMod; of poly.Mul. -/
import Derived.Test.YtoifjkandmnakaaDivMod
namespace Go.Proofs.Ytoifjkandmnakaa
open Go.RowKit

theorem tl_of_last {n : Nat} {f : Nat → Nat} (h : 0 < n → f (n - 1) ≠ 0) : tl f n = n := tl_unique (Nat.le_refl _) (fun j h1 h2 => by omega) h

set_option maxHeartbeats 1000000 in
theorem rdivmod_any (m n nb ca cb : Nat) (A B : Option Addr) (a b : Nat → Nat) (w : World) (lo hi : Nat) (ha : Sq .u32 w lo hi A n a) (hb : Sq .u32 w lo hi B nb b) (hn : n ≤ 9223372036854775807) (hnb : nb ≤ 9223372036854775807) (hhi : hi ≤ w.heap.size) :
    Calls Try.prog 21 #[.int .u32 m, .slice A n ca, .slice B nb cb] w (RetDv w m n a nb b) := by
  have HV := Lib.hid (both_any m n nb ca cb A B a b w lo hi lo hi ha hb hn hnb hhi)
  by_cases hc : chk2 m n a nb b = 0
  · rw [hc] at HV
    obtain ⟨hc1, hc2⟩ := chk2_zero hc
    obtain ⟨m1, m2, n1, n2, n3⟩ := chk_zero hc1
    obtain ⟨_, _, b1, b2, b3⟩ := chk_zero hc2
    have haa : ∀ j, a j < m := fun j => by
      rcases Nat.lt_or_ge j n with h | h
      · exact n2 j h
      · rw [ha.1 j h]; omega
    have hbb : ∀ j, b j < m := fun j => by
      rcases Nat.lt_or_ge j nb with h | h
      · exact b2 j h
      · rw [hb.1 j h]; omega
    have HTL := Lib.hid (tl_of_last n3)
    have HC := Lib.hid hc
    clear hc hc1 hc2 n2 n3 b2 b3
    rcases hu : unitF m nb b with ⟨iv, t⟩
    cases t
    · have hE : dvE m n a nb b = 7 := by unfold dvE; rw [if_pos HC.out, hu]; rfl
      have HU := Lib.hid hu
      have HE := Lib.hid hE
      have HA := Lib.hid (And.intro ha hb)
      have HBB := Lib.hid hbb
      have hiv : iv = 0 := by
        unfold unitF at hu
        split at hu
        · injection hu with h1; exact h1.symm
        · split at hu
          · injection hu with _ h2; cases h2
          · injection hu with h1; exact h1.symm
      subst hiv
      clear hu hE ha hb hbb haa
      go_enter Try.func21, Try.ntmps21
      go_wp2_with fail
      refine HV.out.mono ?_
      rintro e w1 ⟨rfl, hbel1⟩
      have hun := leads_any m nb cb B b w1 lo hi (HA.out.2.below hbel1 hhi) (by omega) m1 m2 (HBB.out _)
      rw [HU.out] at hun
      have HUN := Lib.hid hun
      clear hun
      go_wp2_with fail
      refine HUN.out.mono ?_
      rintro e w2 ⟨rfl, rfl⟩
      go_wp2
      go_ret3
      exact retDv_err HE.out (by decide) hbel1
    · obtain ⟨hnb0, hiv, hinv⟩ := unitF_true hu m1 (hbb _)
      have HU := Lib.hid hu
      have HA := Lib.hid (And.intro ha hb)
      have HBB := Lib.hid hbb
      have HAA := Lib.hid haa
      have HINV := Lib.hid hinv
      clear hu ha hb hbb haa hinv
      go_enter Try.func21, Try.ntmps21
      go_wp2_with fail
      refine HV.out.mono ?_
      rintro e w1 ⟨rfl, hbel1⟩
      have hun := leads_any m nb cb B b w1 lo hi (HA.out.2.below hbel1 hhi) (by omega) m1 m2 (HBB.out _)
      rw [HU.out] at hun
      have HUN := Lib.hid hun
      clear hun
      go_wp2_with fail
      refine HUN.out.mono ?_
      rintro e w2 ⟨rfl, rfl⟩
      go_wp2_with fail
      refine (split_any m iv n nb ca cb A B a b w1 lo hi lo hi (HA.out.1.below hbel1 hhi) (HA.out.2.below hbel1 hhi) (by omega) m2 hiv HAA.out HBB.out (by omega) (by omega) (by have := hbel1.size; omega) hnb0 HINV.out HTL.out).mono ?_
      rintro e w3 h3
      obtain ⟨A1, c1, A2, c2, rfl, hr⟩ := h3
      have HR := Lib.hid hr
      clear hr
      go_wp2
      go_ret3
      exact retDv_ok HC.out HU.out hbel1 ⟨A1, c1, A2, c2, rfl, HR.out⟩
  · obtain ⟨x, hx⟩ : ∃ x, chk2 m n a nb b = x := ⟨_, rfl⟩
    have hE : dvE m n a nb b = x := by unfold dvE; rw [if_neg hc, hx]
    rw [hx] at HV hc
    have hxz : ((x : Int) != 0) = true := by simp; omega
    have HE := Lib.hid hE
    clear hx ha hb hE
    go_enter Try.func21, Try.ntmps21
    go_wp2_with fail
    refine HV.out.mono ?_
    rintro e w1 ⟨rfl, hbel1⟩
    go_wp2
    go_ret3
    exact retDv_err HE.out hc hbel1

/-- a new list and an error -/
def RetSlE (w : World) (n : Nat) (F : Nat → Nat) (er : Nat) (e : Ending) (w' : World) : Prop :=
  ∃ A c, e = .returned (.tuple #[.slice A n c, .int .i64 (er : Int)]) ∧ n ≤ c ∧ Sq .u32 w' w.heap.size w'.heap.size A n F ∧ Below w.heap.size w w'

/-- the error and the result of a product -/
def mlE (m n : Nat) (a : Nat → Nat) (nb : Nat) (b : Nat → Nat) : Nat := if chk2 m n a nb b = 0 then (if 0 < n ∧ 0 < nb ∧ 257 < n + nb then 3 else 0) else chk2 m n a nb b
def mlF (m n : Nat) (a : Nat → Nat) (nb : Nat) (b : Nat → Nat) : Nat → Nat := if mlE m n a nb b = 0 then mulF m a b else fun _ => 0
def RetMl (w : World) (m n : Nat) (a : Nat → Nat) (nb : Nat) (b : Nat → Nat) : Ending → World → Prop := RetSlE w (tl (mlF m n a nb b) (n + nb)) (mlF m n a nb b) (mlE m n a nb b)

theorem retMl_err {w w' : World} {m n nb x : Nat} {a b : Nat → Nat} (hx : mlE m n a nb b = x) (h0 : x ≠ 0) (hb : Below w.heap.size w w') : RetMl w m n a nb b (.returned (.tuple #[.slice none 0 0, .int .i64 (x : Int)])) w' := by
  have e1 : mlF m n a nb b = fun _ => 0 := by unfold mlF; rw [hx, if_neg h0]
  unfold RetMl
  rw [e1, hx, tl_zeros (fun _ => rfl)]
  exact ⟨none, 0, rfl, Nat.le_refl _, Sq.nil _ _ _ _ _, hb⟩
theorem retMl_ok {w w0 w' : World} {m n nb : Nat} {a b : Nat → Nat} {x : Value} (hE : mlE m n a nb b = 0) (hb : Below w.heap.size w w0) (h : RetSl w0 (tl (mulF m a b) (n + nb)) (mulF m a b) (.returned x) w') :
    RetMl w m n a nb b (.returned (.tuple #[x, .int .i64 0])) w' := by
  have e1 : mlF m n a nb b = mulF m a b := by unfold mlF; rw [if_pos hE]
  unfold RetMl
  rw [e1, hE]
  obtain ⟨A, c, he, h1, h2, h3⟩ := h
  injection he with he
  subst he
  exact ⟨A, c, rfl, h1, h2.wide hb.size (Nat.le_refl _), hb.trans (h3.mono hb.size)⟩

theorem vals_lt {m n : Nat} {f : Nat → Nat} (h : chk m n f = 0) (hz : ∀ j, n ≤ j → f j = 0) : ∀ j, f j < m := fun j => by
  obtain ⟨m1, _, _, n2, _⟩ := chk_zero h
  rcases Nat.lt_or_ge j n with h | h
  · exact n2 j h
  · rw [hz j h]; omega

set_option maxHeartbeats 1000000 in
theorem mul_any (m n nb ca cb : Nat) (A B : Option Addr) (a b : Nat → Nat) (w : World) (lo hi : Nat) (ha : Sq .u32 w lo hi A n a) (hb : Sq .u32 w lo hi B nb b) (hn : n ≤ 9223372036854775807) (hnb : nb ≤ 9223372036854775807) (hhi : hi ≤ w.heap.size) :
    Calls Try.prog 24 #[.int .u32 m, .slice A n ca, .slice B nb cb] w (RetMl w m n a nb b) := by
  have HV := Lib.hid (valid2_call m n nb ca cb A B a b w lo hi ha hb hn hnb hhi)
  by_cases hc : chk2 m n a nb b = 0
  · rw [hc] at HV
    obtain ⟨hc1, hc2⟩ := chk2_zero hc
    obtain ⟨m1, m2, n1, n2, n3⟩ := chk_zero hc1
    obtain ⟨_, _, b1, b2, b3⟩ := chk_zero hc2
    have HAA := Lib.hid (vals_lt hc1 ha.1)
    have HBB := Lib.hid (vals_lt hc2 hb.1)
    have HA := Lib.hid (And.intro ha hb)
    have HC := Lib.hid hc
    clear hc hc1 hc2 n2 n3 b2 b3 ha hb
    by_cases hl : 0 < n ∧ 0 < nb ∧ 257 < n + nb
    · obtain ⟨l1, l2, l3⟩ := hl
      have hE : mlE m n a nb b = 3 := by unfold mlE; rw [if_pos HC.out, if_pos ⟨l1, l2, l3⟩]
      have HE := Lib.hid hE
      have hd : decide ((n : Int) + (nb : Int) > 257) = true := decide_eq_true (by omega)
      clear hE
      go_enter Try.func24, Try.ntmps24
      go_wp2_with fail
      refine (HV.out _ rfl).mono ?_
      rintro e w1 ⟨rfl, hbel1⟩
      go_wp2
      go_ret2
      exact retMl_err HE.out (by decide) hbel1
    · have hE : mlE m n a nb b = 0 := by unfold mlE; rw [if_pos HC.out, if_neg hl]
      have HE := Lib.hid hE
      clear hE
      have hcase : n = 0 ∨ (0 < n ∧ nb = 0) ∨ (0 < n ∧ 0 < nb ∧ n + nb ≤ 257) := by omega
      clear hl
      rcases hcase with h | ⟨h, h'⟩ | ⟨h, h', h''⟩
      · subst h
        go_enter Try.func24, Try.ntmps24
        go_wp2_with fail
        refine (HV.out _ rfl).mono ?_
        rintro e w1 ⟨rfl, hbel1⟩
        go_wp2_with fail
        refine (product_any m 0 nb ca cb A B a b w1 lo hi (HA.out.1.below hbel1 hhi) (HA.out.2.below hbel1 hhi) (by omega) m2 HAA.out HBB.out (by omega) (by omega) (by have := hbel1.size; omega)).mono ?_
        rintro e w3 ⟨A1, c1, rfl, hr⟩
        have HR := Lib.hid hr
        clear hr
        go_wp2
        go_ret2
        exact retMl_ok HE.out hbel1 ⟨A1, c1, by rw [Nat.zero_add]; rfl, HR.out⟩
      · subst h'
        go_enter Try.func24, Try.ntmps24
        go_wp2_with fail
        refine (HV.out _ rfl).mono ?_
        rintro e w1 ⟨rfl, hbel1⟩
        go_wp2_with fail
        refine (product_any m n 0 ca cb A B a b w1 lo hi (HA.out.1.below hbel1 hhi) (HA.out.2.below hbel1 hhi) (by omega) m2 HAA.out HBB.out (by omega) (by omega) (by have := hbel1.size; omega)).mono ?_
        rintro e w3 ⟨A1, c1, rfl, hr⟩
        have HR := Lib.hid hr
        clear hr
        go_wp2
        go_ret2
        exact retMl_ok HE.out hbel1 ⟨A1, c1, rfl, HR.out⟩
      · go_enter Try.func24, Try.ntmps24
        go_wp2_with fail
        refine (HV.out _ rfl).mono ?_
        rintro e w1 ⟨rfl, hbel1⟩
        go_wp2_with fail
        refine (product_any m n nb ca cb A B a b w1 lo hi (HA.out.1.below hbel1 hhi) (HA.out.2.below hbel1 hhi) (by omega) m2 HAA.out HBB.out (by omega) (by omega) (by have := hbel1.size; omega)).mono ?_
        rintro e w3 ⟨A1, c1, rfl, hr⟩
        have HR := Lib.hid hr
        clear hr
        go_wp2
        go_ret2
        exact retMl_ok HE.out hbel1 ⟨A1, c1, rfl, HR.out⟩
  · obtain ⟨x, hx⟩ : ∃ x, chk2 m n a nb b = x := ⟨_, rfl⟩
    have hE : mlE m n a nb b = x := by unfold mlE; rw [if_neg hc, hx]
    rw [hx] at HV hc
    have hxz : ((x : Int) != 0) = true := by simp; omega
    have HE := Lib.hid hE
    clear hx ha hb hE
    go_enter Try.func24, Try.ntmps24
    go_wp2_with fail
    refine (HV.out _ rfl).mono ?_
    rintro e w1 ⟨rfl, hbel1⟩
    go_wp2
    go_ret2
    exact retMl_err HE.out hc hbel1
end Go.Proofs.Ytoifjkandmnakaa
