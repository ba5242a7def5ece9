/- The contracts of poly.DivMod and of the reference's DivMod: one and the same. -/
import Derived.Test.YtoifjkandmnakaaSplit
namespace Go.Proofs.Ytoifjkandmnakaa
open Go.RowKit

/-- the error and the results of a division -/
def dvE (m n : Nat) (a : Nat → Nat) (nb : Nat) (b : Nat → Nat) : Nat := if chk2 m n a nb b = 0 then (if (unitF m nb b).2 = true then 0 else 7) else chk2 m n a nb b
def dvQ (m n : Nat) (a : Nat → Nat) (nb : Nat) (b : Nat → Nat) : Nat → Nat := if dvE m n a nb b = 0 then dQ m nb b (unitF m nb b).1 (dL n nb) a else fun _ => 0
def dvR (m n : Nat) (a : Nat → Nat) (nb : Nat) (b : Nat → Nat) : Nat → Nat := if dvE m n a nb b = 0 then dR m nb b (unitF m nb b).1 (dL n nb) a else fun _ => 0

/-- two new lists and an error -/
def RetSl3 (w : World) (n1 : Nat) (F1 : Nat → Nat) (n2 : Nat) (F2 : Nat → Nat) (er : Nat) (e : Ending) (w' : World) : Prop :=
  ∃ A1 c1 A2 c2, e = .returned (.tuple #[.slice A1 n1 c1, .slice A2 n2 c2, .int .i64 (er : Int)]) ∧ n1 ≤ c1 ∧ n2 ≤ c2 ∧ Sq .u32 w' w.heap.size w'.heap.size A1 n1 F1 ∧ Sq .u32 w' w.heap.size w'.heap.size A2 n2 F2 ∧ Below w.heap.size w w'

def RetDv (w : World) (m n : Nat) (a : Nat → Nat) (nb : Nat) (b : Nat → Nat) : Ending → World → Prop :=
  RetSl3 w (tl (dvQ m n a nb b) (dL n nb)) (dvQ m n a nb b) (tl (dvR m n a nb b) n) (dvR m n a nb b) (dvE m n a nb b)

theorem retDv_err {w w' : World} {m n nb x : Nat} {a b : Nat → Nat} (hx : dvE m n a nb b = x) (h0 : x ≠ 0) (hb : Below w.heap.size w w') : RetDv w m n a nb b (.returned (.tuple #[.slice none 0 0, .slice none 0 0, .int .i64 (x : Int)])) w' := by
  have e1 : dvQ m n a nb b = fun _ => 0 := by unfold dvQ; rw [hx, if_neg h0]
  have e2 : dvR m n a nb b = fun _ => 0 := by unfold dvR; rw [hx, if_neg h0]
  unfold RetDv
  rw [e1, e2, hx, tl_zeros (fun _ => rfl), tl_zeros (fun _ => rfl)]
  exact ⟨none, 0, none, 0, rfl, Nat.le_refl _, Nat.le_refl _, Sq.nil _ _ _ _ _, Sq.nil _ _ _ _ _, hb⟩
theorem retDv_ok {w w0 w' : World} {m n nb iv : Nat} {a b : Nat → Nat} {x y : Value} (hc : chk2 m n a nb b = 0) (hu : unitF m nb b = (iv, true)) (hb : Below w.heap.size w w0)
    (h : RetSl2 w0 (tl (dQ m nb b iv (dL n nb) a) (dL n nb)) (dQ m nb b iv (dL n nb) a) (tl (dR m nb b iv (dL n nb) a) n) (dR m nb b iv (dL n nb) a) (.returned (.tuple #[x, y])) w') :
    RetDv w m n a nb b (.returned (.tuple #[x, y, .int .i64 0])) w' := by
  have e0 : dvE m n a nb b = 0 := by unfold dvE; rw [if_pos hc, hu, if_pos rfl]
  have e1 : dvQ m n a nb b = dQ m nb b iv (dL n nb) a := by unfold dvQ; rw [if_pos e0, hu]
  have e2 : dvR m n a nb b = dR m nb b iv (dL n nb) a := by unfold dvR; rw [if_pos e0, hu]
  unfold RetDv
  rw [e0, e1, e2]
  obtain ⟨A1, c1, A2, c2, he, h1, h2, h3, h4, h5⟩ := h
  injection he with he
  injection he with he
  injection he with he
  injection he with hx he
  injection he with hy _
  subst hx hy
  exact ⟨A1, c1, A2, c2, rfl, h1, h2, h3.wide hb.size (Nat.le_refl _), h4.wide hb.size (Nat.le_refl _), hb.trans (h5.mono hb.size)⟩

/-- what valid says of two polynomials that have just been put into a slice -/
theorem valid2_call (m n nb ca cb : Nat) (A B : Option Addr) (a b : Nat → Nat) (w : World) (lo hi : Nat) (ha : Sq .u32 w lo hi A n a) (hb : Sq .u32 w lo hi B nb b) (hn : n ≤ 9223372036854775807) (hnb : nb ≤ 9223372036854775807) (hhi : hi ≤ w.heap.size) (W : World)
    (hW : W = w.alloc (.cells #[.slice A n ca, .slice B nb cb] 23)) :
    Calls Try.prog 44 #[.int .u32 m, .slice (some ⟨w.heap.size, 0, none⟩) 2 2] W (fun e w' => e = .returned (.int .i64 (chk2 m n a nb b : Nat)) ∧ Below w.heap.size w w') := by
  subst hW
  have hbel := (Below.refl w.heap.size w).alloc (Nat.le_refl _) (.cells #[.slice A n ca, .slice B nb cb] 23)
  refine (valid2_any m w.heap.size n nb ca cb A B a b _ lo hi (by rw [World.cell?_alloc_new]; rfl) (by rw [World.cell?_alloc_new]; rfl) (ha.below hbel hhi) (hb.below hbel hhi) hn hnb).mono fun e w' h => ⟨h.1, hbel.trans (h.2.mono (by simp))⟩

set_option maxHeartbeats 1000000 in
theorem divmod_any (m n nb ca cb : Nat) (A B : Option Addr) (a b : Nat → Nat) (w : World) (lo hi : Nat) (ha : Sq .u32 w lo hi A n a) (hb : Sq .u32 w lo hi B nb b) (hn : n ≤ 9223372036854775807) (hnb : nb ≤ 9223372036854775807) (hhi : hi ≤ w.heap.size) :
    Calls Try.prog 18 #[.int .u32 m, .slice A n ca, .slice B nb cb] w (RetDv w m n a nb b) := by
  have HV := Lib.hid (valid2_call m n nb ca cb A B a b w lo hi ha hb hn hnb hhi)
  by_cases hc : chk2 m n a nb b = 0
  · rw [hc] at HV
    obtain ⟨hc1, hc2⟩ := chk2_zero hc
    obtain ⟨m1, m2, n1, n2, n3⟩ := chk_zero hc1
    obtain ⟨_, _, b1, b2, b3⟩ := chk_zero hc2
    have haa : ∀ j, a j < m := fun j => by
      rcases Nat.lt_or_ge j n with h | h
      · exact n2 j h
      · rw [ha.1 j h]; omega
    have hbb : ∀ j, b j < m := fun j => by
      rcases Nat.lt_or_ge j nb with h | h
      · exact b2 j h
      · rw [hb.1 j h]; omega
    have HC := Lib.hid hc
    clear hc hc1 hc2 n2 n3 b2 b3
    rcases hu : unitF m nb b with ⟨iv, t⟩
    cases t
    · have hE : dvE m n a nb b = 7 := by unfold dvE; rw [if_pos HC.out, hu]; rfl
      have HU := Lib.hid hu
      have HE := Lib.hid hE
      have HA := Lib.hid (And.intro ha hb)
      have HBB := Lib.hid hbb
      have hiv : iv = 0 := by
        unfold unitF at hu
        split at hu
        · injection hu with h1; exact h1.symm
        · split at hu
          · injection hu with _ h2; cases h2
          · injection hu with h1; exact h1.symm
      subst hiv
      clear hu hE ha hb hbb haa
      go_enter Try.func18, Try.ntmps18
      go_wp2_with fail
      refine (HV.out _ rfl).mono ?_
      rintro e w1 ⟨rfl, hbel1⟩
      have hun := unit_any m nb cb B b w1 lo hi (HA.out.2.below hbel1 hhi) (by omega) m1 m2 (HBB.out _)
      rw [HU.out] at hun
      have HUN := Lib.hid hun
      clear hun
      go_wp2_with fail
      refine HUN.out.mono ?_
      rintro e w2 ⟨rfl, hbel2⟩
      go_wp2
      go_ret3
      exact retDv_err HE.out (by decide) (hbel1.trans (hbel2.mono hbel1.size))
    · obtain ⟨hnb0, hiv, hinv⟩ := unitF_true hu m1 (hbb _)
      have HU := Lib.hid hu
      have HA := Lib.hid (And.intro ha hb)
      have HBB := Lib.hid hbb
      have HAA := Lib.hid haa
      clear hu ha hb hbb haa hinv
      go_enter Try.func18, Try.ntmps18
      go_wp2_with fail
      refine (HV.out _ rfl).mono ?_
      rintro e w1 ⟨rfl, hbel1⟩
      have hun := unit_any m nb cb B b w1 lo hi (HA.out.2.below hbel1 hhi) (by omega) m1 m2 (HBB.out _)
      rw [HU.out] at hun
      have HUN := Lib.hid hun
      clear hun
      go_wp2_with fail
      refine HUN.out.mono ?_
      rintro e w2 ⟨rfl, hbel2⟩
      have hbel12 := hbel1.trans (hbel2.mono hbel1.size)
      go_wp2_with fail
      refine (divide_any m iv n nb ca cb A B a b w2 lo hi (HA.out.1.below hbel12 hhi) (HA.out.2.below hbel12 hhi) (by omega) m2 hiv HAA.out HBB.out (by omega) (by omega) (by have := hbel12.size; omega) hnb0).mono ?_
      rintro e w3 h3
      obtain ⟨A1, c1, A2, c2, rfl, hr⟩ := h3
      have HR := Lib.hid hr
      clear hr
      go_wp2
      go_ret3
      exact retDv_ok HC.out HU.out hbel12 ⟨A1, c1, A2, c2, rfl, HR.out⟩
  · obtain ⟨x, hx⟩ : ∃ x, chk2 m n a nb b = x := ⟨_, rfl⟩
    have hE : dvE m n a nb b = x := by unfold dvE; rw [if_neg hc, hx]
    rw [hx] at HV hc
    have hxz : ((x : Int) != 0) = true := by simp; omega
    have HE := Lib.hid hE
    clear hx ha hb hE
    go_enter Try.func18, Try.ntmps18
    go_wp2_with fail
    refine (HV.out _ rfl).mono ?_
    rintro e w1 ⟨rfl, hbel1⟩
    go_wp2
    go_ret3
    exact retDv_err HE.out hc hbel1
end Go.Proofs.Ytoifjkandmnakaa
