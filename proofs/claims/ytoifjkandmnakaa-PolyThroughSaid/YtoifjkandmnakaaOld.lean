/- Shorter words for the laws' walks: lists that lie in a world's memory; a call that leaves what was there; the contracts of poly's functions at valid polynomials. -/
import Derived.Test.YtoifjkandmnakaaEval
import Derived.Test.YtoifjkandmnakaaAlg
namespace Go.Proofs.Ytoifjkandmnakaa
open Go.RowKit

/-- a list that lies in the world's memory -/
def SqO (w : World) (A : Option Addr) (n : Nat) (f : Nat → Nat) : Prop := Sq .u32 w 0 w.heap.size A n f
/-- what was there is as it was -/
def Bl (w w' : World) : Prop := Below w.heap.size w w'

theorem Bl.refl (w : World) : Bl w w := Below.refl _ _
theorem Bl.then {w w1 w2 : World} (h : Bl w w1) (h2 : Bl w1 w2) : Bl w w2 := Below.trans h (Below.mono h2 (Below.size h))
theorem SqO.step {w w' : World} {A : Option Addr} {n : Nat} {f : Nat → Nat} (h : SqO w A n f) (hb : Bl w w') : SqO w' A n f := (Sq.below h hb (Nat.le_refl _)).wide (Nat.le_refl _) (Below.size hb)
theorem Sq.o {w : World} {lo n : Nat} {A : Option Addr} {f : Nat → Nat} (h : Sq .u32 w lo w.heap.size A n f) : SqO w A n f := h.wide (Nat.zero_le _) (Nat.le_refl _)
theorem SqO.zero {w : World} {A : Option Addr} {n : Nat} {f : Nat → Nat} (h : SqO w A n f) : ∀ j, n ≤ j → f j = 0 := h.1

theorem chk_tl {m N : Nat} {F : Nat → Nat} (h1 : 2 ≤ m) (h2 : m ≤ 2147483647) (h3 : tl F N ≤ 256) (h4 : ∀ j, F j < m) : chk m (tl F N) F = 0 :=
  chk_ok h1 h2 h3 (fun j _ => h4 j) (tl_last F N)

theorem chk2_ok {m n nb : Nat} {a b : Nat → Nat} (ha : chk m n a = 0) (hb : chk m nb b = 0) : chk2 m n a nb b = 0 := by
  unfold chk2
  rw [if_pos ha, hb]

/-- a valid polynomial in memory -/
structure PolO (m : Nat) (w : World) (A : Option Addr) (n : Nat) (f : Nat → Nat) : Prop where
  sq : SqO w A n f
  ck : chk m n f = 0

theorem PolO.step {m n : Nat} {w w' : World} {A : Option Addr} {f : Nat → Nat} (h : PolO m w A n f) (hb : Bl w w') : PolO m w' A n f := ⟨h.sq.step hb, h.ck⟩
theorem PolO.len {m n : Nat} {w : World} {A : Option Addr} {f : Nat → Nat} (h : PolO m w A n f) : 2 ≤ m ∧ m ≤ 2147483647 ∧ n ≤ 256 := by
  obtain ⟨h1, h2, h3, _, _⟩ := chk_zero h.ck
  exact ⟨h1, h2, h3⟩
theorem PolO.lt {m n : Nat} {w : World} {A : Option Addr} {f : Nat → Nat} (h : PolO m w A n f) : ∀ j, f j < m := vals_lt h.ck h.sq.zero
/-- a function has one length -/
theorem PolO.same {m n1 n2 : Nat} {w1 w2 : World} {A1 A2 : Option Addr} {f g : Nat → Nat} (h1 : PolO m w1 A1 n1 f) (h2 : PolO m w2 A2 n2 g) (e : f = g) : n1 = n2 := by
  subst e
  obtain ⟨_, _, _, _, l1⟩ := chk_zero h1.ck
  obtain ⟨_, _, _, _, l2⟩ := chk_zero h2.ck
  rcases Nat.lt_trichotomy n1 n2 with h | h | h
  · exact absurd (h1.sq.zero (n2 - 1) (by omega)) (l2 (by omega))
  · exact h
  · exact absurd (h2.sq.zero (n1 - 1) (by omega)) (l1 (by omega))

/-- a product of valid polynomials -/
theorem mulO {m n nb ca cb : Nat} {A B : Option Addr} {a b : Nat → Nat} {w : World} (ha : PolO m w A n a) (hb : PolO m w B nb b) (hl : n + nb ≤ 256) :
    Calls Try.prog 24 #[.int .u32 m, .slice A n ca, .slice B nb cb] w (fun e w' => ∃ A' c' n', e = .returned (.tuple #[.slice A' n' c', .int .i64 0]) ∧ PolO m w' A' n' (mulF m a b) ∧ n' ≤ n + nb ∧ Bl w w') := by
  obtain ⟨m1, m2, _⟩ := ha.len
  have hE : mlE m n a nb b = 0 := by unfold mlE; rw [if_pos (chk2_ok ha.ck hb.ck), if_neg (by omega)]
  have hF : mlF m n a nb b = mulF m a b := by unfold mlF; rw [if_pos hE]
  refine (mul_any m n nb ca cb A B a b w 0 w.heap.size ha.sq hb.sq (by omega) (by omega) (Nat.le_refl _)).mono fun e w' h => ?_
  obtain ⟨A', c', rfl, _, h2, h3⟩ := h
  rw [hF] at h2
  rw [hE, hF]
  have ht := tl_le (mulF m a b) (n + nb)
  exact ⟨A', c', _, rfl, ⟨h2.o, chk_tl m1 m2 (by omega) (mulF_lt (by omega) a b)⟩, ht, h3⟩

theorem addF_lt {m : Nat} (hm : 0 < m) (a b : Nat → Nat) (j : Nat) : addF m a b j < m := Nat.mod_lt _ hm
theorem addO {m n nb ca cb : Nat} {A B : Option Addr} {a b : Nat → Nat} {w : World} (ha : PolO m w A n a) (hb : PolO m w B nb b) :
    Calls Try.prog 28 #[.int .u32 m, .slice A n ca, .slice B nb cb] w (fun e w' => ∃ A' c' n', e = .returned (.tuple #[.slice A' n' c', .int .i64 0]) ∧ PolO m w' A' n' (addF m a b) ∧ n' ≤ max n nb ∧ Bl w w') := by
  obtain ⟨m1, m2, l1⟩ := ha.len
  obtain ⟨_, _, l2⟩ := hb.len
  refine (add_any m n nb ca cb A B a b w 0 w.heap.size ha.sq hb.sq (by omega) (by omega) (Nat.le_refl _)).mono fun e w' h => ?_
  rw [chk2_ok ha.ck hb.ck] at h
  obtain ⟨A', c', rfl, _, h2, h3⟩ := h
  have ht := tl_le (addF m a b) (max n nb)
  exact ⟨A', c', _, rfl, ⟨h2.o, chk_tl m1 m2 (by show tl (addF m a b) (max n nb) ≤ 256; omega) (addF_lt (by omega) a b)⟩, ht, h3⟩

theorem subO {m n nb ca cb : Nat} {A B : Option Addr} {a b : Nat → Nat} {w : World} (ha : PolO m w A n a) (hb : PolO m w B nb b) :
    Calls Try.prog 29 #[.int .u32 m, .slice A n ca, .slice B nb cb] w (fun e w' => ∃ A' c' n', e = .returned (.tuple #[.slice A' n' c', .int .i64 0]) ∧ PolO m w' A' n' (subF m a b) ∧ n' ≤ max n nb ∧ Bl w w') := by
  obtain ⟨m1, m2, l1⟩ := ha.len
  obtain ⟨_, _, l2⟩ := hb.len
  refine (psub_any m n nb ca cb A B a b w 0 w.heap.size ha.sq hb.sq (by omega) (by omega) (Nat.le_refl _)).mono fun e w' h => ?_
  rw [chk2_ok ha.ck hb.ck] at h
  obtain ⟨A', c', rfl, _, h2, h3⟩ := h
  have ht := tl_le (subF m a b) (max n nb)
  exact ⟨A', c', _, rfl, ⟨h2.o, chk_tl m1 m2 (by show tl (subF m a b) (max n nb) ≤ 256; omega) (subF_lt (by omega) a b)⟩, ht, h3⟩

theorem samePO {m n nb ca cb : Nat} {A B : Option Addr} {a b : Nat → Nat} {w : World} (ha : PolO m w A n a) (hb : PolO m w B nb b) (h : a = b) :
    Calls Try.prog 22 #[.slice A n ca, .slice B nb cb] w (fun e w' => e = .returned (.bool true) ∧ Bl w w') := by
  obtain ⟨_, _, l1⟩ := ha.len
  have e := ha.same hb h
  subst e h
  have h := same_any n n ca cb A B a a w _ _ _ _ ha.sq hb.sq (by omega) (by omega) (Nat.le_refl _) (Nat.le_refl _)
  rw [sameB_refl] at h
  exact h
theorem sameO {n nb ca cb : Nat} {A B : Option Addr} {a b : Nat → Nat} {w : World} (ha : SqO w A n a) (hb : SqO w B nb b) (hn : n ≤ 1000000) (h1 : n = nb) (h2 : a = b) :
    Calls Try.prog 22 #[.slice A n ca, .slice B nb cb] w (fun e w' => e = .returned (.bool true) ∧ Bl w w') := by
  subst h1 h2
  have h := same_any n n ca cb A B a a w _ _ _ _ ha hb hn hn (Nat.le_refl _) (Nat.le_refl _)
  rw [sameB_refl] at h
  exact h

theorem checkO {m n ca : Nat} {A : Option Addr} {a : Nat → Nat} {w : World} (ha : SqO w A n a) (hn : n ≤ 9223372036854775807) :
    Calls Try.prog 23 #[.int .u32 m, .slice A n ca] w (fun e w' => e = .returned (.int .i64 (chk m n a : Nat)) ∧ Bl w w') := pcheck_any m n ca A a w 0 w.heap.size ha hn (Nat.le_refl _)
theorem awakeO (w : World) : Calls Try.prog 16 #[] w (fun e w' => e = .returned (.bool true) ∧ Bl w w') := awake_any w

/-- how a law of a valid case begins: awake alone is left -/
theorem chk_bool {x : Nat} : ((x : Int) != 0) = !decide (x = 0) := by
  by_cases h : x = 0
  · subst h; rfl
  · rw [decide_eq_false h]
    simp
    omega
end Go.Proofs.Ytoifjkandmnakaa
