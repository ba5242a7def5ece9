/- The powers modulo a polynomial, plain: rest, product, square and multiply; the contract of PowMod's closure. -/
import Derived.Test.YtoifjkandmnakaaLawKit
namespace Go.Proofs.Ytoifjkandmnakaa
open Go.RowKit

def restP (m nb : Nat) (b : Nat → Nat) (iv : Nat) (p : Nat × (Nat → Nat)) : Nat × (Nat → Nat) := (tl (dR m nb b iv (dL p.1 nb) p.2) p.1, dR m nb b iv (dL p.1 nb) p.2)
def prodP (m : Nat) (p q : Nat × (Nat → Nat)) : Nat × (Nat → Nat) := (tl (mulF m p.2 q.2) (p.1 + q.1), mulF m p.2 q.2)
def powP (m nb : Nat) (b : Nat → Nat) (iv : Nat) : Nat → Nat → Nat × (Nat → Nat) → Nat × (Nat → Nat) → Nat × (Nat → Nat)
  | 0, _, o, _ => o
  | k + 1, N, o, x => if N = 0 then o else powP m nb b iv k (N / 2) (if N % 2 = 1 then restP m nb b iv (prodP m o x) else o) (restP m nb b iv (prodP m x x))

theorem powP_succ {m nb iv k N : Nat} {b : Nat → Nat} {o x : Nat × (Nat → Nat)} : powP m nb b iv (k + 1) N o x = if N = 0 then o else powP m nb b iv k (N / 2) (if N % 2 = 1 then restP m nb b iv (prodP m o x) else o) (restP m nb b iv (prodP m x x)) := rfl
theorem powP_zero {m nb iv : Nat} {b : Nat → Nat} {o x : Nat × (Nat → Nat)} : ∀ k, powP m nb b iv k 0 o x = o
  | 0 => rfl
  | _ + 1 => if_pos rfl

/-- a list of residues that ends in no zero -/
def Res (m : Nat) (p : Nat × (Nat → Nat)) : Prop := (∀ j, p.2 j < m) ∧ (∀ j, p.1 ≤ j → p.2 j = 0) ∧ tl p.2 p.1 = p.1

theorem res_rest {m nb iv : Nat} {b : Nat → Nat} {p : Nat × (Nat → Nat)} (h : Res m p) (hm : 0 < m) (hnb : 0 < nb) (hiv : iv * b (nb - 1) % m = 1 % m) (hb : ∀ j, nb ≤ j → b j = 0) :
    Res m (restP m nb b iv p) ∧ (restP m nb b iv p).1 < nb ∧ (restP m nb b iv p).1 ≤ p.1 := by
  obtain ⟨n, f⟩ := p
  obtain ⟨h1, h2, h3⟩ := h
  have hhigh : ∀ j, nb - 1 ≤ j → dR m nb b iv (dL n nb) f j = 0 := dR_high hm hnb hiv hb _ f h1 fun j hj => h2 j (by unfold dL at hj; show n ≤ j; omega)
  have hout : ∀ j, n ≤ j → dR m nb b iv (dL n nb) f j = 0 := fun j hj => by
    rcases Nat.lt_or_ge n nb with h | h
    · rw [show dL n nb = 0 from by unfold dL; omega]
      exact h2 j hj
    · exact hhigh j (by omega)
  refine ⟨⟨dR_lt hm _ _ h1, fun j hj => ?_, tl_tl _ _⟩, ?_, tl_le _ _⟩
  · rcases Nat.lt_or_ge j n with h | h
    · exact tl_zero _ n j hj h
    · exact hout j h
  · show tl (dR m nb b iv (dL n nb) f) n < nb
    rcases Nat.lt_or_ge (tl (dR m nb b iv (dL n nb) f) n) nb with h | h
    · exact h
    · exact absurd (hhigh _ (by omega)) (tl_last (dR m nb b iv (dL n nb) f) n (by omega))
theorem res_prod {m : Nat} {p q : Nat × (Nat → Nat)} (hp : Res m p) (hq : Res m q) (hm : 0 < m) : Res m (prodP m p q) ∧ (prodP m p q).1 ≤ p.1 + q.1 := by
  refine ⟨⟨mulF_lt hm _ _, fun j hj => ?_, tl_tl _ _⟩, tl_le _ _⟩
  rcases Nat.lt_or_ge j (p.1 + q.1) with h | h
  · exact tl_zero _ _ j hj h
  · exact mulF_ext hp.2.1 hq.2.1 j (by omega)
theorem res_one {m : Nat} (hm : 2 ≤ m) : Res m (1, oneF 1) := by
  refine ⟨fun j => ?_, fun j hj => ?_, ?_⟩
  · show oneF 1 j < m
    unfold oneF
    split <;> omega
  · show oneF 1 j = 0
    unfold oneF
    exact if_neg (by have : 1 ≤ j := hj; omega)
  · rfl

set_option maxHeartbeats 1000000 in
theorem rest_any (m iv n nb ca cb pm pf pi : Nat) (A B : Option Addr) (a b : Nat → Nat) (w : World) (ha : Sq .u32 w 0 w.heap.size A n a) (hb : Sq .u32 w 0 w.heap.size B nb b)
    (hcm : w.cell? ⟨pm, 0, none⟩ = some (.int .u32 (m : Int))) (hcf : w.cell? ⟨pf, 0, none⟩ = some (.slice B nb cb)) (hci : w.cell? ⟨pi, 0, none⟩ = some (.int .u32 (iv : Int)))
    (hm : 0 < m) (hm2 : m ≤ 2147483647) (hiv : iv < m) (haa : ∀ j, a j < m) (hbb : ∀ j, b j < m) (hn : n ≤ 2000) (hnb : nb ≤ 2000) (hnb0 : 0 < nb) :
    Calls Try.prog 56 #[.slice A n ca, .pointer (some ⟨pm, 0, none⟩), .pointer (some ⟨pf, 0, none⟩), .pointer (some ⟨pi, 0, none⟩)] w (RetSl w (restP m nb b iv (n, a)).1 (restP m nb b iv (n, a)).2) := by
  have HD := Lib.hid (divide_any m iv n nb ca cb A B a b w 0 w.heap.size ha hb hm hm2 hiv haa hbb hn hnb (Nat.le_refl _) hnb0)
  clear ha hb haa hbb
  go_enter Try.func56, Try.ntmps56
  go_wp2_with fail
  refine HD.out.mono ?_
  rintro e w1 ⟨A1, c1, A2, c2, rfl, _, h2, _, h4, h5⟩
  have H := Lib.hid (And.intro h2 (And.intro h4 h5))
  clear h2 h4 h5
  go_wp2
  go_ret
  exact ⟨_, _, rfl, H.out.1, H.out.2.1, H.out.2.2⟩
end Go.Proofs.Ytoifjkandmnakaa
