/- The contract of the law's own awake: it returns true. -/
/- What the laws' walks share: arguments as functions, large at two lists, lent lists. -/
/- The powers modulo a polynomial, plain: rest, product, square and multiply; the contract of PowMod's closure. -/
/- The contract of poly.PowMod. -/
/- The strong tests to the bases 2, 7 and 61 are exact below 2^32: plain Lean, no program in sight. -/
/- Euclid's rule on polynomials modulo a prime, plain. -/
import Derived.Test.YtkklacgoeopekaaLit
import Derived.Test.YtkklacgoeopekaaProduct
namespace Go.Proofs.Ytkklacgoeopekaa
open Go.RowKit

theorem awake_mul (w : World) : Calls Try.prog 50 #[.int .u32 17, .slice (some ⟨w.heap.size, 0, none⟩) 2 2, .slice (some ⟨w.heap.size + 1, 0, none⟩) 2 2]
    ((w.alloc (.cells #[.int .u32 1, .int .u32 1] 22)).alloc (.cells #[.int .u32 16, .int .u32 1] 22))
    (fun e w' => ∃ A c, e = .returned (.tuple #[.slice A 3 c, .int .i64 0]) ∧ Sq .u32 w' w.heap.size w'.heap.size A 3 (litF [16, 0, 1]) ∧ Below w.heap.size w w') := by
  have s1 : Sq .u32 (w.alloc (.cells #[.int .u32 1, .int .u32 1] 22)) 0 (w.heap.size + 1) (some ⟨w.heap.size, 0, none⟩) 2 (litF [1, 1]) := sq_list .u32 w 22 0 _ [1, 1] (Nat.zero_le _) (Nat.lt_succ_self _)
  have hb0 := (Below.refl w.heap.size w).alloc (Nat.le_refl _) (.cells #[.int .u32 1, .int .u32 1] 22)
  have hz : (w.alloc (.cells #[.int .u32 1, .int .u32 1] 22)).heap.size = w.heap.size + 1 := by simp
  generalize (w.alloc (.cells #[.int .u32 1, .int .u32 1] 22)) = W at *
  have s2 : Sq .u32 (W.alloc (.cells #[.int .u32 16, .int .u32 1] 22)) 0 (W.heap.size + 1) (some ⟨W.heap.size, 0, none⟩) 2 (litF [16, 1]) := sq_list .u32 W 22 0 _ [16, 1] (Nat.zero_le _) (Nat.lt_succ_self _)
  have hb1 := (Below.refl W.heap.size W).alloc (Nat.le_refl _) (.cells #[.int .u32 16, .int .u32 1] 22)
  have s1' := (s1.below hb1 (by omega)).wide (Nat.le_refl 0) (show w.heap.size + 1 ≤ W.heap.size + 1 by omega)
  rw [hz] at s1' s2
  refine (mul_any 17 2 2 2 2 _ _ _ _ _ 0 (w.heap.size + 1 + 1) s1' s2 (by omega) (by omega) (by simp; omega)).mono fun e w' h => ?_
  obtain ⟨A, c, rfl, h1, h2, h3⟩ := h
  have e1 : mlE 17 2 (litF [1, 1]) 2 (litF [16, 1]) = 0 := by decide +kernel
  have e2 : tl (mlF 17 2 (litF [1, 1]) 2 (litF [16, 1])) (2 + 2) = 3 := by decide +kernel
  have e3 : sameB 3 (mlF 17 2 (litF [1, 1]) 2 (litF [16, 1])) 3 (litF [16, 0, 1]) = true := by decide +kernel
  rw [e2] at h2
  rw [e1, e2]
  have hbel := hb0.trans ((hb1.trans (h3.mono (by simp))).mono (by omega))
  exact ⟨A, c, rfl, (sq_lit [16, 0, 1] h2 e3).wide (by simp; omega) (Nat.le_refl _), hbel⟩

theorem awake_div (w : World) : Calls Try.prog 31 #[.int .u32 17, .slice (some ⟨w.heap.size, 0, none⟩) 4 4, .slice (some ⟨w.heap.size + 1, 0, none⟩) 2 2]
    ((w.alloc (.cells #[.int .u32 2, .int .u32 0, .int .u32 0, .int .u32 1] 22)).alloc (.cells #[.int .u32 1, .int .u32 1] 22))
    (fun e w' => ∃ A c A2 c2, e = .returned (.tuple #[.slice A 3 c, .slice A2 1 c2, .int .i64 0]) ∧ Sq .u32 w' w.heap.size w'.heap.size A 3 (litF [1, 16, 1]) ∧ Sq .u32 w' w.heap.size w'.heap.size A2 1 (litF [1]) ∧ Below w.heap.size w w') := by
  have s1 : Sq .u32 (w.alloc (.cells #[.int .u32 2, .int .u32 0, .int .u32 0, .int .u32 1] 22)) 0 (w.heap.size + 1) (some ⟨w.heap.size, 0, none⟩) 4 (litF [2, 0, 0, 1]) := sq_list .u32 w 22 0 _ [2, 0, 0, 1] (Nat.zero_le _) (Nat.lt_succ_self _)
  have hb0 := (Below.refl w.heap.size w).alloc (Nat.le_refl _) (.cells #[.int .u32 2, .int .u32 0, .int .u32 0, .int .u32 1] 22)
  have hz : (w.alloc (.cells #[.int .u32 2, .int .u32 0, .int .u32 0, .int .u32 1] 22)).heap.size = w.heap.size + 1 := by simp
  generalize (w.alloc (.cells #[.int .u32 2, .int .u32 0, .int .u32 0, .int .u32 1] 22)) = W at *
  have s2 : Sq .u32 (W.alloc (.cells #[.int .u32 1, .int .u32 1] 22)) 0 (W.heap.size + 1) (some ⟨W.heap.size, 0, none⟩) 2 (litF [1, 1]) := sq_list .u32 W 22 0 _ [1, 1] (Nat.zero_le _) (Nat.lt_succ_self _)
  have hb1 := (Below.refl W.heap.size W).alloc (Nat.le_refl _) (.cells #[.int .u32 1, .int .u32 1] 22)
  have s1' := (s1.below hb1 (by omega)).wide (Nat.le_refl 0) (show w.heap.size + 1 ≤ W.heap.size + 1 by omega)
  rw [hz] at s1' s2
  refine (divmod_any 17 4 2 4 2 _ _ _ _ _ 0 (w.heap.size + 1 + 1) s1' s2 (by omega) (by omega) (by simp; omega)).mono fun e w' h => ?_
  obtain ⟨A, c, A2, c2, rfl, h1, h1', h2, h2', h3⟩ := h
  have e1 : dvE 17 4 (litF [2, 0, 0, 1]) 2 (litF [1, 1]) = 0 := by decide +kernel
  have e2 : tl (dvQ 17 4 (litF [2, 0, 0, 1]) 2 (litF [1, 1])) (dL 4 2) = 3 := by decide +kernel
  have e3 : sameB 3 (dvQ 17 4 (litF [2, 0, 0, 1]) 2 (litF [1, 1])) 3 (litF [1, 16, 1]) = true := by decide +kernel
  have e4 : tl (dvR 17 4 (litF [2, 0, 0, 1]) 2 (litF [1, 1])) 4 = 1 := by decide +kernel
  have e5 : sameB 1 (dvR 17 4 (litF [2, 0, 0, 1]) 2 (litF [1, 1])) 1 (litF [1]) = true := by decide +kernel
  rw [e2] at h2
  rw [e4] at h2'
  rw [e1, e2, e4]
  have hbel := hb0.trans ((hb1.trans (h3.mono (by simp))).mono (by omega))
  exact ⟨A, c, A2, c2, rfl, (sq_lit [1, 16, 1] h2 e3).wide (by simp; omega) (Nat.le_refl _), (sq_lit [1] h2' e5).wide (by simp; omega) (Nat.le_refl _), hbel⟩

end Go.Proofs.Ytkklacgoeopekaa

namespace Go.Proofs.Ytkklacgoeopekaa
open Go.RowKit

/-- a slice of uint32 that came in, told by a function -/
theorem Sq.grown {k : IntKind} {w w' : World} {lo hi n g : Nat} {A : Option Addr} {f : Nat → Nat} (h : Sq k w lo hi A n f) (hg : w.grownBy w' (some g)) (hne : g < lo ∨ hi ≤ g) (hhi : hi ≤ w.heap.size) : Sq k w' lo hi A n f :=
  ⟨h.1, fun hn => by
    obtain ⟨b, off, e, h1, h2, h3⟩ := h.2 hn
    exact ⟨b, off, e, h1, h2, fun j hj => (World.cell?_of_block (hg.block b (by omega) (by simp; omega))).trans (h3 j hj)⟩⟩

theorem rowIs_grown {w w' : World} {b g t n : Nat} {F : Nat → Value} (h : w.rowIs b t n F) (hg : w.grownBy w' (some g)) (hne : b ≠ g) : w'.rowIs b t n F := h.of_block (hg.block b h.lt (by simp; omega))

theorem anyLong2_true {n nb : Nat} (h : 300 < n ∨ 300 < nb) : anyLong 2 (two n nb) = true := by
  rcases h with h | h
  · exact anyLong_true (k := 0) (by omega) h
  · exact anyLong_true (k := 1) (by omega) h
theorem anyLong2_false {n nb : Nat} (h : ¬(300 < n ∨ 300 < nb)) : anyLong 2 (two n nb) = false :=
  anyLong_false fun k hk => by
    match k, hk with
    | 0, _ => show n ≤ 300; omega
    | 1, _ => show nb ≤ 300; omega

/-- a lent list reads as the list -/
theorem sq_lent {w : World} {b n : Nat} {f : Nat → Nat} (h : w.rowIs b 22 (n + 1) (ku .u32 (lentF n f))) (hz : ∀ j, n ≤ j → f j = 0) : Sq .u32 w b (b + 1) (some ⟨b, 0, none⟩) n f :=
  Sq.of_row h (by omega) (Nat.le_refl _) (Nat.lt_succ_self _) hz fun j hj => lentF_lt hj
end Go.Proofs.Ytkklacgoeopekaa

namespace Go.Proofs.Ytkklacgoeopekaa
open Go.RowKit

def restP (m nb : Nat) (b : Nat → Nat) (iv : Nat) (p : Nat × (Nat → Nat)) : Nat × (Nat → Nat) := (tl (dR m nb b iv (dL p.1 nb) p.2) p.1, dR m nb b iv (dL p.1 nb) p.2)
def prodP (m : Nat) (p q : Nat × (Nat → Nat)) : Nat × (Nat → Nat) := (tl (mulF m p.2 q.2) (p.1 + q.1), mulF m p.2 q.2)
def powP (m nb : Nat) (b : Nat → Nat) (iv : Nat) : Nat → Nat → Nat × (Nat → Nat) → Nat × (Nat → Nat) → Nat × (Nat → Nat)
  | 0, _, o, _ => o
  | k + 1, N, o, x => if N = 0 then o else powP m nb b iv k (N / 2) (if N % 2 = 1 then restP m nb b iv (prodP m o x) else o) (restP m nb b iv (prodP m x x))

theorem powP_succ {m nb iv k N : Nat} {b : Nat → Nat} {o x : Nat × (Nat → Nat)} : powP m nb b iv (k + 1) N o x = if N = 0 then o else powP m nb b iv k (N / 2) (if N % 2 = 1 then restP m nb b iv (prodP m o x) else o) (restP m nb b iv (prodP m x x)) := rfl
theorem powP_zero {m nb iv : Nat} {b : Nat → Nat} {o x : Nat × (Nat → Nat)} : ∀ k, powP m nb b iv k 0 o x = o
  | 0 => rfl
  | _ + 1 => if_pos rfl

/-- a list of residues that ends in no zero -/
def Res (m : Nat) (p : Nat × (Nat → Nat)) : Prop := (∀ j, p.2 j < m) ∧ (∀ j, p.1 ≤ j → p.2 j = 0) ∧ tl p.2 p.1 = p.1

theorem res_rest {m nb iv : Nat} {b : Nat → Nat} {p : Nat × (Nat → Nat)} (h : Res m p) (hm : 0 < m) (hnb : 0 < nb) (hiv : iv * b (nb - 1) % m = 1 % m) (hb : ∀ j, nb ≤ j → b j = 0) :
    Res m (restP m nb b iv p) ∧ (restP m nb b iv p).1 < nb ∧ (restP m nb b iv p).1 ≤ p.1 := by
  obtain ⟨n, f⟩ := p
  obtain ⟨h1, h2, h3⟩ := h
  have hhigh : ∀ j, nb - 1 ≤ j → dR m nb b iv (dL n nb) f j = 0 := dR_high hm hnb hiv hb _ f h1 fun j hj => h2 j (by unfold dL at hj; show n ≤ j; omega)
  have hout : ∀ j, n ≤ j → dR m nb b iv (dL n nb) f j = 0 := fun j hj => by
    rcases Nat.lt_or_ge n nb with h | h
    · rw [show dL n nb = 0 from by unfold dL; omega]
      exact h2 j hj
    · exact hhigh j (by omega)
  refine ⟨⟨dR_lt hm _ _ h1, fun j hj => ?_, tl_tl _ _⟩, ?_, tl_le _ _⟩
  · rcases Nat.lt_or_ge j n with h | h
    · exact tl_zero _ n j hj h
    · exact hout j h
  · show tl (dR m nb b iv (dL n nb) f) n < nb
    rcases Nat.lt_or_ge (tl (dR m nb b iv (dL n nb) f) n) nb with h | h
    · exact h
    · exact absurd (hhigh _ (by omega)) (tl_last (dR m nb b iv (dL n nb) f) n (by omega))
theorem res_prod {m : Nat} {p q : Nat × (Nat → Nat)} (hp : Res m p) (hq : Res m q) (hm : 0 < m) : Res m (prodP m p q) ∧ (prodP m p q).1 ≤ p.1 + q.1 := by
  refine ⟨⟨mulF_lt hm _ _, fun j hj => ?_, tl_tl _ _⟩, tl_le _ _⟩
  rcases Nat.lt_or_ge j (p.1 + q.1) with h | h
  · exact tl_zero _ _ j hj h
  · exact mulF_ext hp.2.1 hq.2.1 j (by omega)
theorem res_one {m : Nat} (hm : 2 ≤ m) : Res m (1, oneF 1) := by
  refine ⟨fun j => ?_, fun j hj => ?_, ?_⟩
  · show oneF 1 j < m
    unfold oneF
    split <;> omega
  · show oneF 1 j = 0
    unfold oneF
    exact if_neg (by have : 1 ≤ j := hj; omega)
  · rfl

set_option maxHeartbeats 1000000 in
theorem rest_any (m iv n nb ca cb pm pf pi : Nat) (A B : Option Addr) (a b : Nat → Nat) (w : World) (ha : Sq .u32 w 0 w.heap.size A n a) (hb : Sq .u32 w 0 w.heap.size B nb b)
    (hcm : w.cell? ⟨pm, 0, none⟩ = some (.int .u32 (m : Int))) (hcf : w.cell? ⟨pf, 0, none⟩ = some (.slice B nb cb)) (hci : w.cell? ⟨pi, 0, none⟩ = some (.int .u32 (iv : Int)))
    (hm : 0 < m) (hm2 : m ≤ 2147483647) (hiv : iv < m) (haa : ∀ j, a j < m) (hbb : ∀ j, b j < m) (hn : n ≤ 2000) (hnb : nb ≤ 2000) (hnb0 : 0 < nb) :
    Calls Try.prog 67 #[.slice A n ca, .pointer (some ⟨pm, 0, none⟩), .pointer (some ⟨pf, 0, none⟩), .pointer (some ⟨pi, 0, none⟩)] w (RetSl w (restP m nb b iv (n, a)).1 (restP m nb b iv (n, a)).2) := by
  have HD := Lib.hid (divide_any m iv n nb ca cb A B a b w 0 w.heap.size ha hb hm hm2 hiv haa hbb hn hnb (Nat.le_refl _) hnb0)
  clear ha hb haa hbb
  go_enter Try.func67, Try.ntmps67
  go_wp2_with fail
  refine HD.out.mono ?_
  rintro e w1 ⟨A1, c1, A2, c2, rfl, _, h2, _, h4, h5⟩
  have H := Lib.hid (And.intro h2 (And.intro h4 h5))
  clear h2 h4 h5
  go_wp2
  go_ret
  exact ⟨_, _, rfl, H.out.1, H.out.2.1, H.out.2.2⟩
end Go.Proofs.Ytkklacgoeopekaa

namespace Go.Proofs.Ytkklacgoeopekaa
open Go.RowKit

/-- the error, length and elements of a power -/
def pwE (m n : Nat) (a : Nat → Nat) (nb : Nat) (b : Nat → Nat) : Nat := dvE m n a nb b
def pwP (m n : Nat) (a : Nat → Nat) (N nb : Nat) (b : Nat → Nat) : Nat × (Nat → Nat) :=
  if dvE m n a nb b = 0 then powP m nb b (unitF m nb b).1 64 N (restP m nb b (unitF m nb b).1 (1, oneF 1)) (restP m nb b (unitF m nb b).1 (n, a)) else (0, fun _ => 0)
def RetPw (w : World) (m n : Nat) (a : Nat → Nat) (N nb : Nat) (b : Nat → Nat) : Ending → World → Prop := RetSlE w (pwP m n a N nb b).1 (pwP m n a N nb b).2 (dvE m n a nb b)

theorem retPw_err {w w' : World} {m n nb N x : Nat} {a b : Nat → Nat} (hx : dvE m n a nb b = x) (h0 : x ≠ 0) (hb : Below w.heap.size w w') : RetPw w m n a N nb b (.returned (.tuple #[.slice none 0 0, .int .i64 (x : Int)])) w' := by
  have e1 : pwP m n a N nb b = (0, fun _ => 0) := by unfold pwP; rw [hx, if_neg h0]
  unfold RetPw
  rw [e1, hx]
  exact ⟨none, 0, rfl, Nat.le_refl _, Sq.nil _ _ _ _ _, hb⟩
theorem retPw_ok {w w' : World} {m n nb N k c iv : Nat} {a b f : Nat → Nat} {A : Option Addr} (hE : dvE m n a nb b = 0) (hu : unitF m nb b = (iv, true)) (hP : (k, f) = powP m nb b iv 64 N (restP m nb b iv (1, oneF 1)) (restP m nb b iv (n, a)))
    (hkc : k ≤ c) (hs : Sq .u32 w' w.heap.size w'.heap.size A k f) (hb : Below w.heap.size w w') : RetPw w m n a N nb b (.returned (.tuple #[.slice A k c, .int .i64 0])) w' := by
  have e1 : pwP m n a N nb b = (k, f) := by unfold pwP; rw [if_pos hE, hu, hP]
  unfold RetPw
  rw [e1, hE]
  exact ⟨A, c, rfl, hkc, hs, hb⟩

/-- what holds at the loop's head -/
def PowR (m nb iv : Nat) (b : Nat → Nat) (P0 : Nat × (Nat → Nat)) (w w3 : World) (N : Value) (o : Value) (x : Value) (wr : World) : Prop :=
  ∃ (k n no co nx cx : Nat) (fo fx : Nat → Nat) (Ao Ax : Option Addr), N = .int .u64 (n : Int) ∧ n < 2 ^ k ∧ n < 18446744073709551616 ∧ o = .slice Ao no co ∧ x = .slice Ax nx cx ∧ no ≤ co ∧
    Sq .u32 wr w.heap.size wr.heap.size Ao no fo ∧ Sq .u32 wr w.heap.size wr.heap.size Ax nx fx ∧ Res m (no, fo) ∧ Res m (nx, fx) ∧ no < nb ∧ nx < nb ∧ powP m nb b iv k n (no, fo) (nx, fx) = P0 ∧ Below w3.heap.size w3 wr

set_option maxHeartbeats 2000000 in
theorem powmod_any (m n nb ca cb N : Nat) (A B : Option Addr) (a b : Nat → Nat) (w : World) (ha : Sq .u32 w 0 w.heap.size A n a) (hb : Sq .u32 w 0 w.heap.size B nb b) (hn : n ≤ 9223372036854775807) (hnb : nb ≤ 9223372036854775807) (hN : N < 18446744073709551616) :
    Calls Try.prog 51 #[.int .u32 m, .slice A n ca, .int .u64 N, .slice B nb cb] w (RetPw w m n a N nb b) := by
  obtain ⟨w0, hw0⟩ : ∃ w0, w0 = (w.alloc (.cells #[.int .u32 (m : Int)] 22)).alloc (.cells #[.slice B nb cb] 34) := ⟨_, rfl⟩
  have hbel0 : Below w.heap.size w w0 := by rw [hw0]; exact ((Below.refl _ _).alloc (Nat.le_refl _) _).alloc (by simp) _
  have hz0 : w0.heap.size = w.heap.size + 2 := by rw [hw0]; simp
  have hcm : w0.cell? ⟨w.heap.size, 0, none⟩ = some (.int .u32 (m : Int)) := by rw [hw0, World.cell?_alloc_past _ _ _ (by simp), World.cell?_alloc_new]; rfl
  have hcf : w0.cell? ⟨w.heap.size + 1, 0, none⟩ = some (.slice B nb cb) := by
    rw [hw0, show w.heap.size + 1 = (w.alloc (.cells #[.int .u32 (m : Int)] 22)).heap.size from by simp, World.cell?_alloc_new]; rfl
  have HV0 : ∀ g W, g = w.heap.size + 1 + 1 → W = w0.alloc (.cells #[.slice A n ca, .slice B nb cb] 34) → Calls Try.prog 52 #[.int .u32 m, .slice (some ⟨g, 0, none⟩) 2 2] W (fun e w' => e = .returned (.int .i64 (chk2 m n a nb b : Nat)) ∧ Below w0.heap.size w0 w') := by
    intro g W hg hW
    rw [show g = w0.heap.size by omega]
    exact valid2_call m n nb ca cb A B a b w0 0 w.heap.size (ha.below hbel0 (Nat.le_refl _)) (hb.below hbel0 (Nat.le_refl _)) hn hnb (by omega) W hW
  have HV := Lib.hid HV0
  have HC3 := Lib.hid (And.intro hcm (And.intro hcf (And.intro hbel0 hz0)))
  have HW := Lib.hid hw0
  clear hcm hcf hbel0 hz0 hw0 HV0
  by_cases hc : chk2 m n a nb b = 0
  · rw [hc] at HV
    obtain ⟨hc1, hc2⟩ := chk2_zero hc
    obtain ⟨m1, m2, n1, _, n3⟩ := chk_zero hc1
    obtain ⟨_, _, b1, _, _⟩ := chk_zero hc2
    have HAA := Lib.hid (vals_lt hc1 ha.1)
    have HBB := Lib.hid (vals_lt hc2 hb.1)
    have HTL := Lib.hid (tl_of_last n3)
    have HA := Lib.hid (And.intro ha hb)
    have HC := Lib.hid hc
    clear hc hc1 hc2 n3 ha hb
    rcases hu : unitF m nb b with ⟨iv, t⟩
    have HU := Lib.hid hu
    cases t
    · have hE : dvE m n a nb b = 7 := by unfold dvE; rw [if_pos HC.out, hu]; rfl
      have HE := Lib.hid hE
      clear hE
      go_enter Try.func51, Try.ntmps51
      go_wp2_with fail
      rw [← HW.out]
      refine (HV.out _ _ rfl rfl).mono ?_
      rintro e w1 ⟨rfl, hbel1⟩
      obtain ⟨hcm, hcf, hbel0, hz0⟩ := HC3.out
      have hz1 := hbel1.size
      have hcm1 := (hbel1.cell (p := ⟨w.heap.size, 0, none⟩) (by show w.heap.size < w0.heap.size; omega)).trans hcm
      have hcf1 := (hbel1.cell (p := ⟨w.heap.size + 1, 0, none⟩) (by show w.heap.size + 1 < w0.heap.size; omega)).trans hcf
      have hbel2 := hbel0.trans (hbel1.mono (by omega))
      have hun := unit_any m nb cb B b w1 _ _ (HA.out.2.below hbel2 (Nat.le_refl _)) (by omega) m1 m2 (HBB.out _)
      rw [hu] at hun
      have HUN := Lib.hid hun
      have HB2 := Lib.hid hbel2
      clear hun hu hcm hcf hbel0 hbel1 hbel2
      go_wp2_with fail
      refine HUN.out.mono ?_
      rintro e w2 ⟨rfl, hbel2⟩
      go_wp2
      go_ret2
      exact retPw_err HE.out (by decide) ((HB2.out.trans (hbel2.mono HB2.out.size)).alloc (by have := HB2.out.size; have := hbel2.size; omega) _)
    · obtain ⟨hnb0, hiv, hinv⟩ := unitF_true hu m1 (HBB.out _)
      have hE : dvE m n a nb b = 0 := by unfold dvE; rw [if_pos HC.out, hu]; rfl
      have HE := Lib.hid hE
      have HINV := Lib.hid hinv
      clear hE hinv
      go_enter Try.func51, Try.ntmps51
      go_wp2_with fail
      rw [← HW.out]
      refine (HV.out _ _ rfl rfl).mono ?_
      rintro e w1 ⟨rfl, hbel1⟩
      obtain ⟨hcm, hcf, hbel0, hz0⟩ := HC3.out
      have hz1 := hbel1.size
      have hcm1 := (hbel1.cell (p := ⟨w.heap.size, 0, none⟩) (by show w.heap.size < w0.heap.size; omega)).trans hcm
      have hcf1 := (hbel1.cell (p := ⟨w.heap.size + 1, 0, none⟩) (by show w.heap.size + 1 < w0.heap.size; omega)).trans hcf
      have hbel2 := hbel0.trans (hbel1.mono (by omega))
      have hun := unit_any m nb cb B b w1 _ _ (HA.out.2.below hbel2 (Nat.le_refl _)) (by omega) m1 m2 (HBB.out _)
      rw [hu] at hun
      have HUN := Lib.hid hun
      have HB2 := Lib.hid hbel2
      clear hun hu hcm hcf hbel0 hbel1 hbel2
      go_wp2_with fail
      refine HUN.out.mono ?_
      rintro e w2 ⟨rfl, hbel2⟩
      have hz2 := hbel2.size
      have hcm2 := (hbel2.cell (p := ⟨w.heap.size, 0, none⟩) (by show w.heap.size < w1.heap.size; omega)).trans hcm1
      have hcf2 := (hbel2.cell (p := ⟨w.heap.size + 1, 0, none⟩) (by show w.heap.size + 1 < w1.heap.size; omega)).trans hcf1
      have HB3 := Lib.hid (HB2.out.trans (hbel2.mono HB2.out.size))
      have hsz3 := HB3.out.size
      obtain ⟨w3, hw3⟩ : ∃ w3, w3 = w2.alloc (.cells #[.int .u32 (iv : Int)] 22) := ⟨_, rfl⟩
      have hz3 : w3.heap.size = w2.heap.size + 1 := by rw [hw3]; simp
      have hbel3 : Below w.heap.size w w3 := by rw [hw3]; exact HB3.out.alloc hsz3 _
      have hrest : ∀ (k c : Nat) (D : Option Addr) (f : Nat → Nat) (wx : World), Below w3.heap.size w3 wx → Sq .u32 wx 0 wx.heap.size D k f → Res m (k, f) → k ≤ 2000 →
          Calls Try.prog 67 #[.slice D k c, .pointer (some ⟨w.heap.size, 0, none⟩), .pointer (some ⟨w.heap.size + 1, 0, none⟩), .pointer (some ⟨w2.heap.size, 0, none⟩)] wx
            (fun e w' => ∃ k' c' D' f', e = .returned (.slice D' k' c') ∧ (k', f') = restP m nb b iv (k, f) ∧ Res m (k', f') ∧ k' < nb ∧ k' ≤ c' ∧ Sq .u32 w' wx.heap.size w'.heap.size D' k' f' ∧ Below wx.heap.size wx w') := by
        intro k c D f wx hbx hsx hR hk
        have hzx := hbx.size
        have c1 : wx.cell? ⟨w2.heap.size, 0, none⟩ = some (.int .u32 (iv : Int)) := by
          rw [hbx.cell (p := ⟨w2.heap.size, 0, none⟩) (show w2.heap.size < w3.heap.size by omega), hw3, World.cell?_alloc_new]; rfl
        have c2 : wx.cell? ⟨w.heap.size, 0, none⟩ = some (.int .u32 (m : Int)) := by
          rw [hbx.cell (p := ⟨w.heap.size, 0, none⟩) (show w.heap.size < w3.heap.size by omega), hw3, World.cell?_alloc_past _ _ _ (by show w.heap.size < w2.heap.size; omega)]; exact hcm2
        have c3 : wx.cell? ⟨w.heap.size + 1, 0, none⟩ = some (.slice B nb cb) := by
          rw [hbx.cell (p := ⟨w.heap.size + 1, 0, none⟩) (show w.heap.size + 1 < w3.heap.size by omega), hw3, World.cell?_alloc_past _ _ _ (by show w.heap.size + 1 < w2.heap.size; omega)]; exact hcf2
        have hbb : Sq .u32 wx 0 wx.heap.size B nb b := ((HA.out.2.below hbel3 (Nat.le_refl _)).below hbx (by omega)).wide (Nat.le_refl _) (by omega)
        obtain ⟨r1, r2, r3⟩ := res_rest (iv := iv) (b := b) (nb := nb) hR (by omega) hnb0 HINV.out HA.out.2.1
        refine (rest_any m iv k nb c cb _ _ _ D B f b wx hsx hbb c2 c3 c1 (by omega) m2 hiv hR.1 HBB.out hk (by omega) hnb0).mono ?_
        rintro e w' ⟨D', c', rfl, h1, h2, h3⟩
        exact ⟨_, c', D', _, rfl, rfl, r1, r2, h1, h2, h3⟩
      have HRS := Lib.hid hrest
      have hone := res_one m1
      have hc4 : w3.cell? ⟨w.heap.size, 0, none⟩ = some (.int .u32 (m : Int)) := by rw [hw3, World.cell?_alloc_past _ _ _ (by show w.heap.size < w2.heap.size; omega)]; exact hcm2
      have HC4 := Lib.hid hc4
      have HW3 := Lib.hid (And.intro hw3 (And.intro hz3 hbel3))
      clear hc4 hcm1 hcf1 hbel2 hrest hcm2 hcf2 hw3 hz3 hbel3
      go_wp2_with fail
      obtain ⟨hw3, hz3, hbel3⟩ := HW3.out
      rw [← hw3]
      have hbx : Below w3.heap.size w3 (w3.alloc (.cells #[.int .u32 1] 22)) := (Below.refl _ _).alloc (Nat.le_refl _) _
      have hsx : Sq .u32 (w3.alloc (.cells #[.int .u32 1] 22)) 0 (w3.alloc (.cells #[.int .u32 1] 22)).heap.size (some ⟨w3.heap.size, 0, none⟩) 1 (oneF 1) := sq_one rfl (Nat.zero_le _) (by simp)
      rw [hz3] at hsx
      clear hw3
      generalize w3.alloc (.cells #[.int .u32 1] 22) = w4 at hbx hsx ⊢
      have hz4 := hbx.size
      refine (HRS.out 1 1 _ (oneF 1) w4 hbx hsx hone (by omega)).mono ?_
      rintro e w5 ⟨no, co, Ao, fo, rfl, ho1, ho2, ho3, ho4, ho5, hb5⟩
      have hz5 := hb5.size
      have hbx5 := hbx.trans (hb5.mono hz4)
      have HO := Lib.hid (And.intro ho1 (And.intro ho2 ho5))
      clear ho1 ho2 ho5 hsx hone hbx hb5
      go_wp2_with fail
      refine (HRS.out n ca A a w5 hbx5 (((HA.out.1.below hbel3 (Nat.le_refl _)).below hbx5 (by omega)).wide (Nat.le_refl _) (by omega)) ⟨HAA.out, HA.out.1.1, HTL.out⟩ (by omega)).mono ?_
      rintro e w6 ⟨nx, cx, Ax, fx, rfl, hx1, hx2, hx3, hx4, hx5, hb6⟩
      have hz6 := hb6.size
      have hbx6 := hbx5.trans (hb6.mono (by omega))
      have HX := Lib.hid (And.intro hx1 (And.intro hx2 hx5))
      have HB6 := Lib.hid (And.intro hb6 hbx6)
      obtain ⟨P0, hP0⟩ : ∃ P0, powP m nb b iv 64 N (no, fo) (nx, fx) = P0 := ⟨_, rfl⟩
      have HP := Lib.hid hP0
      have hPP : powP m nb b iv 64 N (restP m nb b iv (1, oneF 1)) (restP m nb b iv (n, a)) = P0 := by rw [← HO.out.1, ← hx1]; exact hP0
      have HPP := Lib.hid hPP
      clear hPP hx1 hx2 hx5 hb6 hbx6 hbx5 hP0
      go_wp2_with fail
      have hw3z : w.heap.size ≤ w3.heap.size := by omega
      go_loopw [2, 14, 15] (fun N o x wr => PowR m nb iv b P0 w w3 N o x wr) (fun N _ _ _ => (intOf N).toNat)
      case atStart =>
        obtain ⟨g1, g2, g3⟩ := HO.out
        obtain ⟨g4, g5, g6⟩ := HX.out
        exact ⟨64, N, no, co, nx, cx, fo, fx, Ao, Ax, rfl, hN, hN, rfl, rfl, ho4, (g3.below HB6.out.1 (Nat.le_refl _)).wide (by omega) hz6, g6.wide (by omega) (Nat.le_refl _), g2, g5, ho3, hx3, HP.out, HB6.out.2⟩
      case round =>
        clear HO HX HB6 HP hx4 hx3 ho4 ho3 hz6 hz5
        obtain ⟨k, n', no, co, nx, cx, fo, fx, Ao, Ax, rfl, hk, hn64, rfl, rfl, hoc, hso, hsx, hro, hrx, hno, hnx, hP, hbel⟩ := hrel
        have hzr := hbel.size
        by_cases h0 : n' = 0
        · subst h0
          have H := Lib.hid (And.intro hso (And.intro hP hbel))
          clear hso hsx hro hrx hP hbel
          go_wp2
          go_ret2
          obtain ⟨hso, hP, hbel⟩ := H.out
          rw [powP_zero] at hP
          exact retPw_ok HE.out HU.out (hP.trans HPP.out.symm) hoc hso (hbel3.trans (hbel.mono hw3z))
        · obtain ⟨k', rfl⟩ : ∃ k', k = k' + 1 := ⟨k - 1, by
            rcases Nat.eq_zero_or_pos k with h | h
            · subst h; omega
            · omega⟩
          have hP2 : powP m nb b iv k' (n' / 2) (if n' % 2 = 1 then restP m nb b iv (prodP m (no, fo) (nx, fx)) else (no, fo)) (restP m nb b iv (prodP m (nx, fx) (nx, fx))) = P0 := by rw [← hP, powP_succ, if_neg h0]
          have hpow : n' / 2 < 2 ^ k' := by rw [Nat.pow_succ] at hk; omega
          have hzm := HC4.out
          have cm := (hbel.cell (p := ⟨w.heap.size, 0, none⟩) (by show w.heap.size < w3.heap.size; omega)).trans hzm
          have H := Lib.hid (And.intro hso (And.intro hsx (And.intro hro (And.intro hrx (And.intro hP2 (And.intro hbel hpow))))))
          have hgt : decide ((n' : Int) > 0) = true := decide_eq_true (by omega)
          clear hso hsx hro hrx hP hP2 hbel hk hpow hzm
          have hodm := Nat.mod_lt n' (show 0 < 2 by omega)
          by_cases hod : n' % 2 = 1
          · have hodi : ((n' : Int) % 2 == 1) = true := by simp; omega
            have HOD := Lib.hid hod
            clear hod
            go_wp2_with fail
            refine (product_any m no nx co cx Ao Ax fo fx wr _ _ H.out.1 H.out.2.1 (by omega) m2 H.out.2.2.1.1 H.out.2.2.2.1.1 (by omega) (by omega) (Nat.le_refl _)).mono ?_
            rintro e w5 ⟨D1, c1, rfl, d1, d2, d3⟩
            obtain ⟨p1, p2⟩ := res_prod H.out.2.2.1 H.out.2.2.2.1 (show 0 < m by omega)
            have hy5 := d3.size
            have hbx5 := H.out.2.2.2.2.2.1.trans (d3.mono hzr)
            have D := Lib.hid (And.intro d2 (And.intro p1 (And.intro d3 hbx5)))
            clear p1 d2 d3 hbx5
            go_wp2_with fail
            refine (HRS.out _ c1 D1 _ w5 D.out.2.2.2 (D.out.1.wide (Nat.zero_le _) (Nat.le_refl _)) D.out.2.1 (Nat.le_trans p2 (show no + nx ≤ 2000 by omega))).mono ?_
            rintro e w6 ⟨n6, c6, D6, f6, rfl, g1, g2, g3, g4, g5, g6⟩
            have hy6 := g6.size
            have hbx6 := D.out.2.2.2.trans (g6.mono (by omega))
            have hb56 := D.out.2.2.1.trans (g6.mono hy5)
            have G := Lib.hid (And.intro g1 (And.intro g2 (And.intro g5 (And.intro hbx6 hb56))))
            have cm6 := (hbx6.cell (p := ⟨w.heap.size, 0, none⟩) (by show w.heap.size < w3.heap.size; omega)).trans HC4.out
            clear g1 g2 g5 g6 hbx6 hb56 D p2 d1
            go_wp2_with fail
            refine (product_any m nx nx cx cx Ax Ax fx fx w6 _ _ (H.out.2.1.below G.out.2.2.2.2 (Nat.le_refl _)) (H.out.2.1.below G.out.2.2.2.2 (Nat.le_refl _)) (by omega) m2 H.out.2.2.2.1.1 H.out.2.2.2.1.1 (by omega) (by omega) (by omega)).mono ?_
            rintro e w7 ⟨D7, c7, rfl, d1, d2, d3⟩
            obtain ⟨p1, p2⟩ := res_prod H.out.2.2.2.1 H.out.2.2.2.1 (show 0 < m by omega)
            have hy7 := d3.size
            have hbx7 := G.out.2.2.2.1.trans (d3.mono (by omega))
            have D := Lib.hid (And.intro d2 (And.intro p1 (And.intro d3 hbx7)))
            clear p1 d2 d3 hbx7 cm6 cm
            go_wp2_with fail
            refine (HRS.out _ c7 D7 _ w7 D.out.2.2.2 (D.out.1.wide (Nat.zero_le _) (Nat.le_refl _)) D.out.2.1 (Nat.le_trans p2 (show nx + nx ≤ 2000 by omega))).mono ?_
            rintro e w8 ⟨n8, c8, D8, f8, rfl, k1, k2, k3, k4, k5, k6⟩
            have hy8 := k6.size
            have hbx8 := D.out.2.2.2.trans (k6.mono (by omega))
            have hb78 := D.out.2.2.1.trans (k6.mono hy7)
            have K := Lib.hid (And.intro k1 (And.intro k2 (And.intro k5 (And.intro hbx8 hb78))))
            clear k1 k2 k5 k6 hbx8 hb78 D p2 d1
            go_wp2
            go_roundw
            case rel =>
              refine ⟨k', n' / 2, n6, c6, n8, c8, f6, f8, D6, D8, by go_num, H.out.2.2.2.2.2.2, by omega, rfl, rfl, g4, (G.out.2.2.1.below K.out.2.2.2.2 (Nat.le_refl _)).wide (by omega) (by omega), K.out.2.2.1.wide (by omega) (Nat.le_refl _), G.out.2.1, K.out.2.1, g3, k3, ?_, K.out.2.2.2.1⟩
              have hP := H.out.2.2.2.2.1
              rw [if_pos HOD.out] at hP
              rw [G.out.1, K.out.1]
              exact hP
            case measure => simp [intOf]; omega
          · have hodi : ((n' : Int) % 2 == 1) = false := by simp; omega
            have HOD := Lib.hid hod
            clear hod
            go_wp2_with fail
            refine (product_any m nx nx cx cx Ax Ax fx fx wr _ _ H.out.2.1 H.out.2.1 (by omega) m2 H.out.2.2.2.1.1 H.out.2.2.2.1.1 (by omega) (by omega) (Nat.le_refl _)).mono ?_
            rintro e w7 ⟨D7, c7, rfl, d1, d2, d3⟩
            obtain ⟨p1, p2⟩ := res_prod H.out.2.2.2.1 H.out.2.2.2.1 (show 0 < m by omega)
            have hy7 := d3.size
            have hbx7 := H.out.2.2.2.2.2.1.trans (d3.mono (by omega))
            have D := Lib.hid (And.intro d2 (And.intro p1 (And.intro d3 hbx7)))
            clear p1 d2 d3 hbx7 cm
            go_wp2_with fail
            refine (HRS.out _ c7 D7 _ w7 D.out.2.2.2 (D.out.1.wide (Nat.zero_le _) (Nat.le_refl _)) D.out.2.1 (Nat.le_trans p2 (show nx + nx ≤ 2000 by omega))).mono ?_
            rintro e w8 ⟨n8, c8, D8, f8, rfl, k1, k2, k3, k4, k5, k6⟩
            have hy8 := k6.size
            have hbx8 := D.out.2.2.2.trans (k6.mono (by omega))
            have hb78 := D.out.2.2.1.trans (k6.mono hy7)
            have K := Lib.hid (And.intro k1 (And.intro k2 (And.intro k5 (And.intro hbx8 hb78))))
            clear k1 k2 k5 k6 hbx8 hb78 D p2 d1
            go_wp2
            go_roundw
            case rel =>
              refine ⟨k', n' / 2, no, co, n8, c8, fo, f8, Ao, D8, by go_num, H.out.2.2.2.2.2.2, by omega, rfl, rfl, hoc, (H.out.1.below K.out.2.2.2.2 (Nat.le_refl _)).wide (by omega) (by omega), K.out.2.2.1.wide (by omega) (Nat.le_refl _), H.out.2.2.1, K.out.2.1, hno, k3, ?_, K.out.2.2.2.1⟩
              have hP := H.out.2.2.2.2.1
              rw [if_neg HOD.out] at hP
              rw [K.out.1]
              exact hP
            case measure => simp [intOf]; omega
  · obtain ⟨x, hx⟩ : ∃ x, chk2 m n a nb b = x := ⟨_, rfl⟩
    have hE : dvE m n a nb b = x := by unfold dvE; rw [if_neg hc, hx]
    rw [hx] at HV hc
    have hxz : ((x : Int) != 0) = true := by simp; omega
    have HE := Lib.hid hE
    clear hx ha hb hE
    go_enter Try.func51, Try.ntmps51
    go_wp2_with fail
    rw [← HW.out]
    refine (HV.out _ _ rfl rfl).mono ?_
    rintro e w1 ⟨rfl, hbel1⟩
    go_wp2
    go_ret2
    obtain ⟨_, _, hbel0, hz0⟩ := HC3.out
    exact retPw_err HE.out hc (hbel0.trans (hbel1.mono (by omega)))
end Go.Proofs.Ytkklacgoeopekaa

namespace Go.Proofs.Ytkklacgoeopekaa.Mr
/-! ### primes -/
def Pr (p : Nat) : Prop := 2 ≤ p ∧ ∀ d, d ∣ p → d = 1 ∨ d = p

theorem exists_prime_dvd : ∀ n, 2 ≤ n → ∃ p, Pr p ∧ p ∣ n := by
  intro n
  induction n using Nat.strongRecOn with
  | ind n ih =>
    intro h
    by_cases hp : Pr n
    · exact ⟨n, hp, Nat.dvd_refl n⟩
    · have : ∃ d, d ∣ n ∧ d ≠ 1 ∧ d ≠ n := by
        refine Classical.byContradiction fun hc => hp ⟨h, fun d hd => ?_⟩
        refine Classical.byContradiction fun h2 => hc ⟨d, hd, fun h3 => h2 (.inl h3), fun h3 => h2 (.inr h3)⟩
      obtain ⟨d, hd, h1, h2⟩ := this
      have hle := Nat.le_of_dvd (by omega) hd
      have h0 : d ≠ 0 := by
        rintro rfl
        have := Nat.eq_zero_of_zero_dvd hd
        omega
      obtain ⟨p, hp, hpd⟩ := ih d (by omega) (by omega)
      exact ⟨p, hp, Nat.dvd_trans hpd hd⟩
theorem Pr.coprime {p a : Nat} (hp : Pr p) (h : ¬ p ∣ a) : Nat.gcd p a = 1 := by
  rcases hp.2 _ (Nat.gcd_dvd_left p a) with h1 | h1
  · exact h1
  · exact absurd (h1 ▸ Nat.gcd_dvd_right p a) h
theorem Pr.dvd_mul {p a b : Nat} (hp : Pr p) (h : p ∣ a * b) : p ∣ a ∨ p ∣ b := by
  by_cases h1 : p ∣ a
  · exact .inl h1
  · exact .inr (Nat.Coprime.dvd_of_dvd_mul_left (hp.coprime h1) h)
theorem Pr.pos {p : Nat} (hp : Pr p) : 0 < p := by have := hp.1; omega

/-! ### Fermat's little theorem -/
def C : Nat → Nat → Nat
  | _, 0 => 1
  | 0, _ + 1 => 0
  | n + 1, k + 1 => C n k + C n (k + 1)
theorem C_succ (n k : Nat) : (k + 1) * C (n + 1) (k + 1) = (n + 1) * C n k := by
  induction n generalizing k with
  | zero =>
    cases k with
    | zero => rfl
    | succ k => simp [C]
  | succ n ih =>
    cases k with
    | zero =>
      have := ih 0
      simp only [C, Nat.zero_add, Nat.one_mul, Nat.mul_one] at this ⊢
      omega
    | succ k =>
      have h1 := ih k
      have h2 := ih (k + 1)
      rw [C]
      rw [Nat.mul_add, h2]
      have h3 : (k + 1 + 1) * C (n + 1) (k + 1) = (n + 1) * C n k + C (n + 1) (k + 1) := by rw [Nat.add_mul, h1, Nat.one_mul]
      rw [h3]
      have h4 : C (n + 1) (k + 1) = C n k + C n (k + 1) := rfl
      rw [show (n + 1 + 1) * C (n + 1) (k + 1) = (n + 1) * C (n + 1) (k + 1) + C (n + 1) (k + 1) by rw [Nat.add_mul (n + 1) 1, Nat.one_mul]]
      rw [h4, Nat.mul_add]
      omega
theorem C_big : ∀ n k, n < k → C n k = 0
  | 0, k + 1, _ => rfl
  | n + 1, k + 1, h => by rw [C, C_big n k (by omega), C_big n (k + 1) (by omega)]
theorem C_self : ∀ n, C n n = 1
  | 0 => rfl
  | n + 1 => by rw [C, C_self n, C_big n (n + 1) (by omega)]
def bsum (a n : Nat) : Nat → Nat
  | 0 => C n 0
  | k + 1 => bsum a n k + C n (k + 1) * a ^ (k + 1)
theorem bsum_succ (a n : Nat) : ∀ k, bsum a (n + 1) (k + 1) = bsum a n (k + 1) + a * bsum a n k
  | 0 => by simp [bsum, C, Nat.add_mul]; omega
  | k + 1 => by
    rw [bsum, bsum_succ a n k]
    rw [show bsum a n (k + 1 + 1) = bsum a n (k + 1) + C n (k + 1 + 1) * a ^ (k + 1 + 1) from rfl]
    rw [show bsum a n (k + 1) = bsum a n k + C n (k + 1) * a ^ (k + 1) from rfl]
    rw [show C (n + 1) (k + 1 + 1) = C n (k + 1) + C n (k + 1 + 1) from rfl, Nat.add_mul, Nat.mul_add]
    rw [show a * (C n (k + 1) * a ^ (k + 1)) = C n (k + 1) * a ^ (k + 1 + 1) by rw [Nat.pow_succ a (k + 1), Nat.mul_left_comm, Nat.mul_comm a (a ^ (k + 1))]]
    omega
theorem bsum_full (a : Nat) : ∀ n, bsum a n n = (a + 1) ^ n
  | 0 => rfl
  | n + 1 => by
    rw [bsum_succ]
    rw [show bsum a n (n + 1) = bsum a n n + C n (n + 1) * a ^ (n + 1) from rfl, C_big n (n + 1) (by omega), Nat.zero_mul, Nat.add_zero, bsum_full a n, Nat.pow_succ, Nat.mul_add, Nat.mul_one, Nat.mul_comm a]
    omega
theorem bsum_mod {p : Nat} (hp : Pr p) (a : Nat) : ∀ k, k < p → bsum a p k % p = 1 % p
  | 0, _ => by simp [bsum, C]
  | k + 1, h => by
    rw [bsum, Nat.add_mod, bsum_mod hp a k (by omega)]
    have hd : p ∣ C p (k + 1) := by
      obtain ⟨q, rfl⟩ : ∃ q, p = q + 1 := ⟨p - 1, by have := hp.1; omega⟩
      have h1 : (q + 1) ∣ (k + 1) * C (q + 1) (k + 1) := by rw [C_succ]; exact Nat.dvd_mul_right _ _
      rcases hp.dvd_mul h1 with h2 | h2
      · have := Nat.le_of_dvd (by omega) h2; omega
      · exact h2
    rw [Nat.mul_mod, Nat.mod_eq_zero_of_dvd hd]
    simp
theorem flt0 {p : Nat} (hp : Pr p) : ∀ a, a ^ p % p = a % p
  | 0 => by
    have := hp.1
    rw [Nat.zero_pow (by omega)]
  | a + 1 => by
    have hp1 := hp.1
    obtain ⟨q, hq⟩ : ∃ q, p = q + 1 := ⟨p - 1, by omega⟩
    have h1 := bsum_full a p
    rw [← h1]
    have h2 := bsum_mod hp a q (by omega)
    have h3 : bsum a p p = bsum a p q + C p p * a ^ p := by
      conv => lhs; arg 3; rw [hq]
      rw [bsum, ← hq]
    rw [h3, C_self, Nat.one_mul, Nat.add_mod, h2, flt0 hp a, ← Nat.add_mod, Nat.add_comm]
theorem dvd_sub_of_mod {p x y : Nat} (h : x % p = y % p) : p ∣ y - x := Nat.dvd_of_mod_eq_zero (Nat.sub_mod_eq_zero_of_mod_eq h.symm)
theorem mod_of_dvd_sub {p x y : Nat} (hxy : x ≤ y) (h : p ∣ y - x) : x % p = y % p := by
  obtain ⟨c, hc⟩ := h
  rw [show y = x + p * c by omega, Nat.add_mul_mod_self_left]
theorem mul_cancel_le {p a x y : Nat} (h : Nat.gcd p a = 1) (hxy : x ≤ y) (he : a * x % p = a * y % p) : x % p = y % p := by
  have h1 := dvd_sub_of_mod he
  rw [← Nat.mul_sub] at h1
  exact mod_of_dvd_sub hxy (Nat.Coprime.dvd_of_dvd_mul_left h h1)
theorem mul_cancel_mod {p a x y : Nat} (h : Nat.gcd p a = 1) (he : a * x % p = a * y % p) : x % p = y % p := by
  rcases Nat.le_total x y with hxy | hxy
  · exact mul_cancel_le h hxy he
  · exact (mul_cancel_le h hxy he.symm).symm
theorem flt {p a : Nat} (hp : Pr p) (h : ¬ p ∣ a) : a ^ (p - 1) % p = 1 % p := by
  refine mul_cancel_mod (hp.coprime h) ?_
  rw [Nat.mul_one, ← flt0 hp a, Nat.mul_comm, ← Nat.pow_succ, show (p - 1).succ = p by have := hp.1; omega]

/-! ### powers that are 1 -/
def U (p a e : Nat) : Prop := a ^ e % p = 1 % p
theorem U.zero (p a : Nat) : U p a 0 := rfl
theorem U.add {p a e f : Nat} (h : U p a e) (h2 : U p a f) : U p a (e + f) := by
  unfold U at *
  rw [Nat.pow_add, Nat.mul_mod, h, h2, ← Nat.mul_mod]
theorem U.mul {p a e : Nat} (h : U p a e) : ∀ k, U p a (e * k)
  | 0 => U.zero p a
  | k + 1 => by rw [Nat.mul_succ]; exact (U.mul h k).add h
theorem U.of_add {p a e f : Nat} (h : U p a e) (h2 : U p a (e + f)) : U p a f := by
  unfold U at *
  rw [Nat.pow_add, Nat.mul_mod, h, ← Nat.mul_mod, Nat.one_mul] at h2
  exact h2
theorem U.dvd {p a e f : Nat} (h : U p a e) (hd : e ∣ f) : U p a f := by
  obtain ⟨k, rfl⟩ := hd
  exact h.mul k
theorem U.mod {p a e f : Nat} (h : U p a e) (h2 : U p a f) : U p a (f % e) := by
  refine (h.mul (f / e)).of_add ?_
  rw [Nat.div_add_mod]
  exact h2
theorem U.gcd {p a : Nat} : ∀ e f, U p a e → U p a f → U p a (Nat.gcd e f) := by
  intro e f
  induction e, f using Nat.gcd.induction with
  | H0 n => intro _ h; rw [Nat.gcd_zero_left]; exact h
  | H1 m n hm ih =>
    intro h1 h2
    rw [Nat.gcd_rec]
    exact ih (h1.mod h2) h1
theorem U.sub {n p a e : Nat} (h : U n a e) (hd : p ∣ n) : U p a e := by
  unfold U at *
  rw [← Nat.mod_mod_of_dvd (a ^ e) hd, h, Nat.mod_mod_of_dvd 1 hd]
/-- all three -/
def U3 (p e : Nat) : Prop := U p 2 e ∧ U p 7 e ∧ U p 61 e
def Ann (p L : Nat) : Prop := ∀ e, U3 p e → L ∣ e
theorem U3.gcd {p e f : Nat} (h : U3 p e) (h2 : U3 p f) : U3 p (Nat.gcd e f) := ⟨U.gcd e f h.1 h2.1, U.gcd e f h.2.1 h2.2.1, U.gcd e f h.2.2 h2.2.2⟩
theorem U3.dvd {p e f : Nat} (h : U3 p e) (hd : e ∣ f) : U3 p f := ⟨h.1.dvd hd, h.2.1.dvd hd, h.2.2.dvd hd⟩
theorem U3.sub {n p e : Nat} (h : U3 n e) (hd : p ∣ n) : U3 p e := ⟨h.1.sub hd, h.2.1.sub hd, h.2.2.sub hd⟩
theorem U3.of_add {p e f : Nat} (h : U3 p e) (h2 : U3 p (e + f)) : U3 p f := ⟨h.1.of_add h2.1, h.2.1.of_add h2.2.1, h.2.2.of_add h2.2.2⟩
theorem ann_of {p L : Nat} (hL : 0 < L) (h : U3 p L) (hq : ∀ q, Pr q → q ∣ L → ¬ U3 p (L / q)) : Ann p L := by
  intro e he
  have hg := he.gcd h
  obtain ⟨m, hm⟩ := Nat.gcd_dvd_right e L
  rcases Nat.lt_or_ge m 2 with h2 | h2
  · have : m = 1 := by
      rcases Nat.eq_zero_or_pos m with h0 | h0
      · rw [h0, Nat.mul_zero] at hm; omega
      · omega
    rw [this, Nat.mul_one] at hm
    rw [hm]
    exact Nat.gcd_dvd_left e L
  · obtain ⟨q, hq1, hq2⟩ := exists_prime_dvd m h2
    obtain ⟨c, hc⟩ := hq2
    have hLq : L = q * (Nat.gcd e L * c) := by rw [← Nat.mul_left_comm, ← hc]; exact hm
    refine absurd (hg.dvd ?_) (hq q hq1 ⟨_, hLq⟩)
    have e1 : L / q = Nat.gcd e L * c := by
      conv => lhs; rw [hLq]
      exact Nat.mul_div_cancel_left _ hq1.pos
    rw [e1]
    exact Nat.dvd_mul_right _ _
/-- n = p k with p = 1 modulo L: k is 1 modulo L -/
theorem ann_k {p L k : Nat} (hp : 0 < p) (hk : 0 < k) (hL : L ∣ p - 1) (h : Ann p L) (hu : U3 p (p * k - 1)) : L ∣ k - 1 := by
  have h1 := h _ hu
  have e1 : p * k - 1 = (p - 1) * k + (k - 1) := by
    obtain ⟨q, rfl⟩ : ∃ q, p = q + 1 := ⟨p - 1, by omega⟩
    rw [Nat.add_mul]
    simp
    omega
  rw [e1] at h1
  exact (Nat.dvd_add_right (Nat.dvd_trans hL (Nat.dvd_mul_right _ _))).1 h1

/-! ### strong tests -/
def SP (a n : Nat) : Prop := ∃ s d, n - 1 = 2 ^ s * d ∧ d % 2 = 1 ∧ (a ^ d % n = 1 ∨ ∃ r, r < s ∧ a ^ (2 ^ r * d) % n = n - 1)
theorem sq_neg {n x : Nat} (hn : 2 ≤ n) (h : x % n = n - 1) : x * x % n = 1 % n := by
  rw [Nat.mul_mod, h]
  obtain ⟨m, rfl⟩ : ∃ m, n = m + 2 := ⟨n - 2, by omega⟩
  rw [show m + 2 - 1 = m + 1 from rfl, show (m + 1) * (m + 1) = 1 + (m + 2) * m by rw [Nat.add_mul, Nat.mul_add, Nat.add_mul]; omega, Nat.add_mul_mod_self_left]
theorem U.of_neg {a n r d : Nat} (hn : 2 ≤ n) (h : a ^ (2 ^ r * d) % n = n - 1) : ∀ j, r < j → U n a (2 ^ j * d) := by
  intro j hj
  have h1 : U n a (2 ^ (r + 1) * d) := by
    unfold U
    rw [Nat.pow_succ, Nat.mul_assoc, Nat.mul_comm 2 d, ← Nat.mul_assoc, Nat.pow_mul, Nat.pow_two]
    exact sq_neg hn h
  refine h1.dvd ?_
  obtain ⟨c, rfl⟩ := Nat.exists_eq_add_of_lt hj
  exact Nat.mul_dvd_mul_right (Nat.pow_dvd_pow 2 (by omega)) d
theorem SP.U {a n : Nat} (hn : 2 ≤ n) (h : SP a n) : U n a (n - 1) := by
  obtain ⟨s, d, h1, _, h3 | ⟨r, hr, h3⟩⟩ := h
  · have : Mr.U n a d := by unfold Mr.U; rw [h3, Nat.mod_eq_of_lt (by omega)]
    rw [h1]
    exact this.dvd (Nat.dvd_mul_left _ _)
  · rw [h1]
    exact U.of_neg hn h3 s hr
def SP3 (n : Nat) : Prop := SP 2 n ∧ SP 7 n ∧ SP 61 n
theorem SP3.U3 {n : Nat} (hn : 2 ≤ n) (h : SP3 n) : U3 n (n - 1) := ⟨h.1.U hn, h.2.1.U hn, h.2.2.U hn⟩
end Go.Proofs.Ytkklacgoeopekaa.Mr

namespace Go.Proofs.Ytkklacgoeopekaa
open Go.RowKit

def gcdP (m : Nat) : Nat → Nat × (Nat → Nat) → Nat × (Nat → Nat) → Nat × (Nat → Nat)
  | 0, x, _ => x
  | k + 1, x, y => if y.1 = 0 then x else gcdP m k y (restP m y.1 y.2 (unitF m y.1 y.2).1 x)
theorem gcdP_zero {m : Nat} {x y : Nat × (Nat → Nat)} (h : y.1 = 0) : ∀ k, gcdP m k x y = x
  | 0 => rfl
  | _ + 1 => if_pos h
theorem gcdP_succ {m k : Nat} {x y : Nat × (Nat → Nat)} (h : y.1 ≠ 0) : gcdP m (k + 1) x y = gcdP m k y (restP m y.1 y.2 (unitF m y.1 y.2).1 x) := if_neg h

/-- modulo a prime each leading element has its inverse -/
theorem unit_prime {m n : Nat} {f : Nat → Nat} (hp : Mr.Pr m) (hr : Res m (n, f)) (hn : 0 < n) : ∃ iv, unitF m n f = (iv, true) ∧ iv < m ∧ iv * f (n - 1) % m = 1 % m := by
  obtain ⟨h1, _, h3⟩ := hr
  have h0 : f (n - 1) ≠ 0 := by
    have h4 := tl_last f n (by show 0 < tl f n; rw [show tl f n = n from h3]; exact hn)
    rw [show tl f n = n from h3] at h4
    exact h4
  have hlt : f (n - 1) < m := h1 _
  have hg : Nat.gcd m (f (n - 1)) = 1 := hp.coprime fun hd => by have := Nat.le_of_dvd (by omega) hd; omega
  have hu := unitF_yes hn hg
  obtain ⟨_, a2, a3⟩ := unitF_true hu hp.1 hlt
  exact ⟨_, hu, a2, a3⟩
/-- the result: the last rest, with leading element 1 -/
def gcdF (m n : Nat) (a : Nat → Nat) (nb : Nat) (b : Nat → Nat) : Nat × (Nat → Nat) :=
  let x := gcdP m 301 (n, a) (nb, b)
  if x.1 = 0 then (0, fun _ => 0) else prodP m x (1, oneF (unitF m x.1 x.2).1)
end Go.Proofs.Ytkklacgoeopekaa
