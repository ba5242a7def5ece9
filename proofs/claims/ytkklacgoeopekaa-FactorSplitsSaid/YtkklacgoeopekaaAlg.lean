/- The contracts of poly.Check, Add, Sub and of the reference's Add, Sub, Mul. -/
/- What functions with a range over a function need: their contract out of their body; boxed variables. -/
/- The contracts of factor's plain, Degree and value. -/
/- The contract of factor.Degree: the least d with p^d = 1 modulo 2 n. -/
/- Plain algebra of polynomials as functions: products commute, associate and distribute modulo m. No program in sight. -/
import Derived.Test.YtkklacgoeopekaaGcdPlain
import Derived.Test.YtkklacgoeopekaaCombine
import Derived.RangeFuncNested
import Derived.RangeFuncBound
import Derived.RangeFuncCalls
import Derived.RangeFuncLeaves
import Derived.Shelf.Abstract
import Derived.Shelf.RegionOpen
import Derived.WalkKit
import Derived.Lib.QuietBelow
import Derived.Sort.QuietThIn
import Derived.OwnWalkIn
import Derived.TacticsInMore
import Derived.LoopNIn
import Derived.LoopIn
import Derived.Test.YtkklacgoeopekaaProduct
import Derived.Test.YtkklacgoeopekaaRet
namespace Go.Proofs.Ytkklacgoeopekaa
open Go.RowKit

def okF (er : Nat) (F : Nat → Nat) : Nat → Nat := if er = 0 then F else fun _ => 0
/-- a new list, if there is no error; its length has no zeros at the end -/
def RetE (w : World) (N : Nat) (F : Nat → Nat) (er : Nat) : Ending → World → Prop := RetSlE w (tl (okF er F) N) (okF er F) er

theorem retE_err {w w' : World} {N x : Nat} {F : Nat → Nat} (h0 : x ≠ 0) (hb : Below w.heap.size w w') : RetE w N F x (.returned (.tuple #[.slice none 0 0, .int .i64 (x : Int)])) w' := by
  have e1 : okF x F = fun _ => 0 := by unfold okF; rw [if_neg h0]
  unfold RetE
  rw [e1, tl_zeros (fun _ => rfl)]
  exact ⟨none, 0, rfl, Nat.le_refl _, Sq.nil _ _ _ _ _, hb⟩
theorem retE_ok {w w0 w' : World} {N N' : Nat} {F F' : Nat → Nat} {x : Value} (hF : F' = F) (hN : tl F N' = tl F N) (hb : Below w.heap.size w w0) (h : RetSl w0 (tl F' N') F' (.returned x) w') :
    RetE w N F 0 (.returned (.tuple #[x, .int .i64 0])) w' := by
  subst hF
  rw [hN] at h
  have e1 : okF 0 F' = F' := by unfold okF; rw [if_pos rfl]
  unfold RetE
  rw [e1]
  obtain ⟨A, c, he, h1, h2, h3⟩ := h
  injection he with he
  subst he
  exact ⟨A, c, rfl, h1, h2.wide hb.size (Nat.le_refl _), hb.trans (h3.mono hb.size)⟩

theorem combF_one (m : Nat) (a b : Nat → Nat) : combF m a b 1 = addF m a b := by
  funext j
  unfold combF addF
  rw [Nat.mul_one]
theorem mod_cancel {p q z m : Nat} (h : (p + z) % m = (q + z) % m) : p % m = q % m := by
  rcases Nat.eq_zero_or_pos m with h0 | h0
  · subst h0
    simp only [Nat.mod_zero] at h ⊢
    omega
  · obtain ⟨k, rfl⟩ : ∃ k, m = k + 1 := ⟨m - 1, by omega⟩
    have e : ∀ x, x % (k + 1) = ((x + z) % (k + 1) + z * k) % (k + 1) := fun x => by
      have e1 : x + z + z * k = x + z * (k + 1) := by rw [Nat.mul_add, Nat.mul_one]; omega
      rw [Nat.add_mod ((x + z) % (k + 1)), Nat.mod_mod, ← Nat.add_mod, e1, Nat.add_mul_mod_self_right]
    rw [e p, e q, h]
theorem combF_neg {m : Nat} {a b : Nat → Nat} (hm : 0 < m) (hb : ∀ j, b j < m) : combF m a b (m - 1) = subF m a b := by
  funext j
  unfold combF subF
  have hbj := hb j
  refine mod_cancel (z := b j) ?_
  obtain ⟨k, rfl⟩ : ∃ k, m = k + 1 := ⟨m - 1, by omega⟩
  rw [Nat.add_sub_cancel, show a j + b j * k + b j = a j + b j * (k + 1) from by rw [Nat.mul_add, Nat.mul_one]; omega, show a j + (k + 1) - b j + b j = a j + (k + 1) from by omega, Nat.add_mul_mod_self_right, Nat.add_mod_right]

theorem check1_call (m n ca : Nat) (A : Option Addr) (a : Nat → Nat) (w : World) (lo hi : Nat) (ha : Sq .u32 w lo hi A n a) (hn : n ≤ 9223372036854775807) (hhi : hi ≤ w.heap.size) (W : World) (hW : W = w.alloc (.cells #[.slice A n ca] 34)) :
    Calls Try.prog 52 #[.int .u32 m, .slice (some ⟨w.heap.size, 0, none⟩) 1 1] W (fun e w' => e = .returned (.int .i64 (chk m n a : Nat)) ∧ Below w.heap.size w w') := by
  subst hW
  have hbel := (Below.refl w.heap.size w).alloc (Nat.le_refl _) (.cells #[.slice A n ca] 34)
  exact (valid1_any m w.heap.size n ca A a _ lo hi (by rw [World.cell?_alloc_new]; rfl) (ha.below hbel hhi) hn).mono fun e w' h => ⟨h.1, hbel.trans (h.2.mono (by simp))⟩

theorem ok2 {m n nb : Nat} {a b : Nat → Nat} (hc : chk2 m n a nb b = 0) (ha : ∀ j, n ≤ j → a j = 0) (hb : ∀ j, nb ≤ j → b j = 0) : 2 ≤ m ∧ m ≤ 2147483647 ∧ n ≤ 256 ∧ nb ≤ 256 ∧ (∀ j, a j < m) ∧ (∀ j, b j < m) ∧ tl a n = n ∧ tl b nb = nb := by
  obtain ⟨hc1, hc2⟩ := chk2_zero hc
  obtain ⟨m1, m2, n1, n2, n3⟩ := chk_zero hc1
  obtain ⟨_, _, b1, b2, b3⟩ := chk_zero hc2
  exact ⟨m1, m2, n1, b1, vals_lt hc1 ha, vals_lt hc2 hb, tl_of_last n3, tl_of_last b3⟩

set_option maxHeartbeats 1000000 in
theorem psub_any (m n nb ca cb : Nat) (A B : Option Addr) (a b : Nat → Nat) (w : World) (lo hi : Nat) (ha : Sq .u32 w lo hi A n a) (hb : Sq .u32 w lo hi B nb b) (hn : n ≤ 9223372036854775807) (hnb : nb ≤ 9223372036854775807) (hhi : hi ≤ w.heap.size) :
    Calls Try.prog 29 #[.int .u32 m, .slice A n ca, .slice B nb cb] w (RetE w (max n nb) (subF m a b) (chk2 m n a nb b)) := by
  have HV := Lib.hid (valid2_call m n nb ca cb A B a b w lo hi ha hb hn hnb hhi)
  by_cases hc : chk2 m n a nb b = 0
  · rw [hc] at HV ⊢
    obtain ⟨m1, m2, n1, b1, haa, hbb, _, _⟩ := ok2 hc ha.1 hb.1
    have HA := Lib.hid (And.intro ha hb)
    have HAB := Lib.hid (And.intro haa hbb)
    have HM := Lib.hid (show (m : Int) - 1 = ((m - 1 : Nat) : Int) by omega)
    clear hc ha hb haa hbb
    go_enter Try.func29, Try.ntmps29
    go_wp2_with fail
    refine (HV.out _ rfl).mono ?_
    rintro e w1 ⟨rfl, hbel1⟩
    go_wp2_with fail
    rw [HM.out]
    refine (combine_any m (m - 1) n nb ca cb A B a b w1 lo hi (HA.out.1.below hbel1 hhi) (HA.out.2.below hbel1 hhi) (by omega) m2 (by omega) HAB.out.1 HAB.out.2 (by omega) (by omega) (by have := hbel1.size; omega)).mono ?_
    rintro e w3 ⟨A1, c1, rfl, hr⟩
    have HR := Lib.hid hr
    clear hr
    go_wp2
    go_ret2
    exact retE_ok (combF_neg (by omega) HAB.out.2) rfl hbel1 ⟨A1, c1, rfl, HR.out⟩
  · obtain ⟨x, hx⟩ : ∃ x, chk2 m n a nb b = x := ⟨_, rfl⟩
    rw [hx] at HV hc ⊢
    have hxz : ((x : Int) != 0) = true := by simp; omega
    clear hx ha hb
    go_enter Try.func29, Try.ntmps29
    go_wp2_with fail
    refine (HV.out _ rfl).mono ?_
    rintro e w1 ⟨rfl, hbel1⟩
    go_wp2
    go_ret2
    exact retE_err hc hbel1

set_option maxHeartbeats 1000000 in
theorem rmul_any (m n nb ca cb : Nat) (A B : Option Addr) (a b : Nat → Nat) (w : World) (lo hi : Nat) (ha : Sq .u32 w lo hi A n a) (hb : Sq .u32 w lo hi B nb b) (hn : n ≤ 9223372036854775807) (hnb : nb ≤ 9223372036854775807) (hhi : hi ≤ w.heap.size) :
    Calls Try.prog 20 #[.int .u32 m, .slice A n ca, .slice B nb cb] w (RetMl w m n a nb b) := by
  have HV := Lib.hid (both_any m n nb ca cb A B a b w lo hi lo hi ha hb hn hnb hhi)
  by_cases hc : chk2 m n a nb b = 0
  · rw [hc] at HV
    obtain ⟨m1, m2, n1, b1, haa, hbb, _, _⟩ := ok2 hc ha.1 hb.1
    have HA := Lib.hid (And.intro ha hb)
    have HAB := Lib.hid (And.intro haa hbb)
    have HC := Lib.hid hc
    clear hc ha hb haa hbb
    by_cases hl : 0 < n ∧ 0 < nb ∧ 257 < n + nb
    · obtain ⟨l1, l2, l3⟩ := hl
      have hE : mlE m n a nb b = 3 := by unfold mlE; rw [if_pos HC.out, if_pos ⟨l1, l2, l3⟩]
      have HE := Lib.hid hE
      have hd : decide ((n : Int) + (nb : Int) > 257) = true := decide_eq_true (by omega)
      clear hE
      go_enter Try.func20, Try.ntmps20
      go_wp2_with fail
      refine HV.out.mono ?_
      rintro e w1 ⟨rfl, hbel1⟩
      go_wp2
      go_ret2
      exact retMl_err HE.out (by decide) hbel1
    · have hE : mlE m n a nb b = 0 := by unfold mlE; rw [if_pos HC.out, if_neg hl]
      have HE := Lib.hid hE
      clear hE
      have hcase : n = 0 ∨ (0 < n ∧ nb = 0) ∨ (0 < n ∧ 0 < nb ∧ n + nb ≤ 257) := by omega
      clear hl
      rcases hcase with h | ⟨h, h'⟩ | ⟨h, h', h''⟩
      · subst h
        go_enter Try.func20, Try.ntmps20
        go_wp2_with fail
        refine HV.out.mono ?_
        rintro e w1 ⟨rfl, hbel1⟩
        go_wp2_with fail
        refine (times_any m 0 nb ca cb A B a b w1 lo hi lo hi (HA.out.1.below hbel1 hhi) (HA.out.2.below hbel1 hhi) (by omega) m2 HAB.out.1 HAB.out.2 (by omega) (by omega) (by have := hbel1.size; omega) (by have := hbel1.size; omega)).mono ?_
        rintro e w3 ⟨A1, c1, rfl, hr⟩
        have HR := Lib.hid hr
        clear hr
        go_wp2
        go_ret2
        exact retMl_ok HE.out hbel1 ⟨A1, c1, by rw [Nat.zero_add]; rfl, HR.out⟩
      · subst h'
        go_enter Try.func20, Try.ntmps20
        go_wp2_with fail
        refine HV.out.mono ?_
        rintro e w1 ⟨rfl, hbel1⟩
        go_wp2_with fail
        refine (times_any m n 0 ca cb A B a b w1 lo hi lo hi (HA.out.1.below hbel1 hhi) (HA.out.2.below hbel1 hhi) (by omega) m2 HAB.out.1 HAB.out.2 (by omega) (by omega) (by have := hbel1.size; omega) (by have := hbel1.size; omega)).mono ?_
        rintro e w3 ⟨A1, c1, rfl, hr⟩
        have HR := Lib.hid hr
        clear hr
        go_wp2
        go_ret2
        exact retMl_ok HE.out hbel1 ⟨A1, c1, rfl, HR.out⟩
      · go_enter Try.func20, Try.ntmps20
        go_wp2_with fail
        refine HV.out.mono ?_
        rintro e w1 ⟨rfl, hbel1⟩
        go_wp2_with fail
        refine (times_any m n nb ca cb A B a b w1 lo hi lo hi (HA.out.1.below hbel1 hhi) (HA.out.2.below hbel1 hhi) (by omega) m2 HAB.out.1 HAB.out.2 (by omega) (by omega) (by have := hbel1.size; omega) (by have := hbel1.size; omega)).mono ?_
        rintro e w3 ⟨A1, c1, rfl, hr⟩
        have HR := Lib.hid hr
        clear hr
        go_wp2
        go_ret2
        exact retMl_ok HE.out hbel1 ⟨A1, c1, rfl, HR.out⟩
  · obtain ⟨x, hx⟩ : ∃ x, chk2 m n a nb b = x := ⟨_, rfl⟩
    have hE : mlE m n a nb b = x := by unfold mlE; rw [if_neg hc, hx]
    rw [hx] at HV hc
    have hxz : ((x : Int) != 0) = true := by simp; omega
    have HE := Lib.hid hE
    clear hx ha hb hE
    go_enter Try.func20, Try.ntmps20
    go_wp2_with fail
    refine HV.out.mono ?_
    rintro e w1 ⟨rfl, hbel1⟩
    go_wp2
    go_ret2
    exact retMl_err HE.out hc hbel1

theorem addF_out {m n nb : Nat} {a b : Nat → Nat} (ha : ∀ j, n ≤ j → a j = 0) (hb : ∀ j, nb ≤ j → b j = 0) (j : Nat) (h1 : n ≤ j) (h2 : nb ≤ j) : addF m a b j = 0 := by
  unfold addF
  rw [ha j h1, hb j h2]
  simp
theorem addF_val {m x y : Nat} : ((x : Int) + (y : Int)) % (m : Int) = (((x + y) % m : Nat) : Int) := by simp

end Go.Proofs.Ytkklacgoeopekaa

namespace Go.Proofs.Ytkklacgoeopekaa
open Go.RowKit Go.Shelf Go.Sort

theorem box_at {W : World} {B : Nat} {v : Value} {t : TypeId} (h : W.heap[B]? = some (.cells #[v] t (0, 0))) : W.cell? ⟨B, 0, none⟩ = some v ∧ W.frozen? ⟨B, 0, none⟩ = false := by
  constructor <;> simp [World.cell?, World.frozen?, h]
theorem box_new (W : World) (v : Value) (t : TypeId) : (W.alloc (.cells #[v] t)).cell? ⟨W.heap.size, 0, none⟩ = some v ∧ (W.alloc (.cells #[v] t)).frozen? ⟨W.heap.size, 0, none⟩ = false :=
  box_at (World.alloc_heap_new W _)
theorem box_alloc {W : World} {a : Addr} {v : Value} (o : Obj) (h : W.cell? a = some v) : (W.alloc o).cell? a = some v := cell_kept h (World.grownBy_alloc W o none) (fun r e => by cases e)
theorem box_frozen {W : World} {a : Addr} {v : Value} (o : Obj) (h : W.cell? a = some v) (hf : W.frozen? a = false) : (W.alloc o).frozen? a = false := (frozen_kept h (World.grownBy_alloc W o none) (fun r e => by cases e)).trans hf

/-- what the body of such a function must achieve; it never panics -/
def PostR (P : Program) (fn : Func) (R : Ending → World → Prop) : Exit → Act → World → Prop
  | .ret, a, w => LeavesInM Fence.wide 9 P fn a.tmps R a.defers .returning w
  | .normal, a, w => LeavesInM Fence.wide 9 P fn a.tmps R a.defers .returning w
  | .outgrown, _, w => R .outgrown w
  | _, _, _ => False
theorem calls_of_marks {P : Program} {f : FuncId} {fn : Func} {c : Code} {args : Array Value} {w : World} {R : Ending → World → Prop} (hf : P.funcs[f]? = some fn) (hb : fn.body = some c)
    (h : c.wp P (PostR P fn R) { tmps := args ++ Array.replicate (fn.ntmps - args.size) undef, defers := [] } w) : Calls P f args w R :=
  (callsIn_wide (n := 9)).1 (callsIn_of_wp_marks hf hb trivial (wpIn_mono (wpIn_wide.2 h) fun e a w he => by cases e <;> first | exact he | exact he.elim) rfl)
theorem marks_end {P : Program} {fn : Func} {R : Ending → World → Prop} {a : Act} {w : World} (hd : a.defers = []) (v : Value) (h : (results fn a.tmps).run P w = .ok v w) (hR : R (.returned v) w) : PostR P fn R .ret a w := by
  show LeavesInM _ _ _ _ _ _ _ _ _
  rw [hd]
  exact ⟨v, h, hR⟩
theorem marks_end1 {P : Program} {fn : Func} {R : Ending → World → Prop} {a : Act} {w : World} {D : Nat} (hd : a.defers = [{ target := .collected D, args := #[] }]) (hK : w.heap[D]? = some (.deferred (some []))) (v : Value)
    (h : (results fn a.tmps).run P (w.putObj D (.deferred none)) = .ok v (w.putObj D (.deferred none))) (hR : R (.returned v) (w.putObj D (.deferred none))) : PostR P fn R .ret a w := by
  show LeavesInM _ _ _ _ _ _ _ _ _
  rw [hd]
  exact ⟨by simp, .inl ⟨_, _, rfl, run_takeDeferred hK, v, h, hR⟩⟩
theorem below_shut {n₀ : Nat} {w w' : World} {D : Nat} (h : Below n₀ w w') (hn : n₀ ≤ D) (hK : w'.heap[D]? = some (.deferred (some []))) : Below n₀ w (w'.putObj D (.deferred none)) :=
  h.grown (grownBy_putObj' w' D (.deferred none)) (by have := (Array.getElem?_eq_some_iff.1 hK).1; omega) (fun k e => by cases e; exact hn)
theorem box_shut {W : World} {a : Addr} {v : Value} {D : Nat} (h : W.cell? a = some v) (hK : W.heap[D]? = some (.deferred (some []))) : (W.putObj D (.deferred none)).cell? a = some v :=
  cell_kept h (grownBy_putObj' _ D (.deferred none)) (fun r e => by cases e; exact ⟨_, hK, rfl⟩)
theorem boxes4 (w : World) (v1 v2 v3 v4 : Value) (t1 t2 t3 t4 : Nat) (w4 : World) (h : w4 = (((w.alloc (.cells #[v1] t1)).alloc (.cells #[v2] t2)).alloc (.cells #[v3] t3)).alloc (.cells #[v4] t4)) :
    w4.cell? ⟨w.heap.size, 0, none⟩ = some v1 ∧ w4.cell? ⟨w.heap.size + 1, 0, none⟩ = some v2 ∧ w4.cell? ⟨w.heap.size + 1 + 1, 0, none⟩ = some v3 ∧ w4.cell? ⟨w.heap.size + 1 + 1 + 1, 0, none⟩ = some v4 ∧
      w4.frozen? ⟨w.heap.size + 1 + 1, 0, none⟩ = false ∧ w4.frozen? ⟨w.heap.size + 1 + 1 + 1, 0, none⟩ = false ∧ w4.heap.size = w.heap.size + 4 := by
  have c1 := box_new w v1 t1
  have z1 : (w.alloc (.cells #[v1] t1)).heap.size = w.heap.size + 1 := World.size_alloc _ _
  generalize w.alloc (.cells #[v1] t1) = w1 at *
  have c2 := box_new w1 v2 t2
  have z2 : (w1.alloc (.cells #[v2] t2)).heap.size = w1.heap.size + 1 := World.size_alloc _ _
  have d1 := box_alloc (.cells #[v2] t2) c1.1
  generalize w1.alloc (.cells #[v2] t2) = w2 at *
  have c3 := box_new w2 v3 t3
  have z3 : (w2.alloc (.cells #[v3] t3)).heap.size = w2.heap.size + 1 := World.size_alloc _ _
  have d1 := box_alloc (.cells #[v3] t3) d1
  have d2 := box_alloc (.cells #[v3] t3) c2.1
  generalize w2.alloc (.cells #[v3] t3) = w3 at *
  have c4 := box_new w3 v4 t4
  have z4 : (w3.alloc (.cells #[v4] t4)).heap.size = w3.heap.size + 1 := World.size_alloc _ _
  have d1 := box_alloc (.cells #[v4] t4) d1
  have d2 := box_alloc (.cells #[v4] t4) d2
  have d3 := box_alloc (.cells #[v4] t4) c3.1
  have f3 := box_frozen (.cells #[v4] t4) c3.1 c3.2
  rw [← h] at *
  rw [z3, z2, z1] at *
  exact ⟨d1, d2, d3, c4.1, f3, c4.2, by omega⟩


/-- the law of a range over a function, in a plain walk; the frame behind the assignment is found by the walk -/
theorem wp_rangeFunc_own {P : Program} {α : Type} {g : Operand} {ps : Array Tmp} {assign body : Code} {Q : Exit → Act → World → Prop} {a : Act} {w : World}
    {gf : Nat} {lb : Array Value} (hg : a.eval g = .func (.func gf) #[] lb) (eg : ∀ args w, (callFunc gf args).run P w = .ok (.enter gf args) w)
    {encs : α → Array Value} {Kp : World → World → Prop} {S Sp : List α → Prop} {N : Nat} {w0 : World} (hseq : SeqStopsK Fence.wide 8 P gf lb encs Kp S Sp N w0)
    (hKt : ∀ {A B C : World}, Kp A B → Kp B C → Kp A C) (hKb : ∀ (W : World) (l : Nat) (o o' : Obj), w.heap.size ≤ l → W.heap[l]? = some o → o.isCells = false → o.isWalk = false → Kp W (W.putObj l o')) (hb0 : Below w0.heap.size w0 w) (hps : ∀ x, (encs x).size = ps.size)
    (I : List α → World → Prop) (Ix : Code → List α → World → Prop) (hI : OwnFrom w.heap.size I) (hIx : ∀ c, OwnFrom w.heap.size (Ix c)) (h0 : I [] w)
    (hab : ∃ a₁ : α → Act, (∀ (l : Nat) (x : α) (W : World) (K : Act → World → Prop), K (a₁ x) W →
      assign.wpIn (Fence.wide.inRound l) 7 P (Exit.then K (fun _ _ _ => False)) { tmps := (ps.zip (encs x)).foldl (fun t (p, v) => t.setIfInBounds p v) a.tmps, defers := [] } W) ∧
      ∀ (l : Nat) (pre : List α) (x : α) (W : World), I pre W → pre.length < N → body.wpIn (Fence.wide.inRound l) 7 P (ownPostK Kp I Ix (pre ++ [x]) W) (a₁ x) W)
    (hdone : ∀ (D : Nat) (xs : List α) (W : World), w.heap.size ≤ D → S xs → I xs W → W.heap[D]? = some (.deferred (some [])) → Q .normal { a with defers := { target := .collected D, args := #[] } :: a.defers } W)
    (hstop : ∀ (D : Nat) (c : Code) (pre : List α) (W : World), w.heap.size ≤ D → Sp pre → Ix c pre W → W.heap[D]? = some (.deferred (some [])) → c.wp P Q { a with defers := { target := .collected D, args := #[] } :: a.defers } W) :
    (Code.rangeFunc g ps assign body).wp P Q a w := by
  obtain ⟨a₁, h1, h2⟩ := hab
  exact (wpIn_wide (n := 9)).1 (wpIn_rangeFunc_ownF (F := Fence.wide) (n := 9) rfl (by omega) hg trivial eg hseq hKt hKb hb0 hps I Ix hI hIx h0 a₁ h1 h2 hdone (fun D c pre W g1 g2 g3 g4 => wpIn_wide.2 (hstop D c pre W g1 g2 g3 g4)))
theorem keeps_below {w w' : World} (h : Below w.heap.size w w') : KeepsOthers w w' := ⟨h.size, fun j _ ho _ => (h.block j (Array.getElem?_eq_some_iff.1 ho).1).trans ho⟩

/-! ### a region that draws its order, within a round: walked once, in the order of the text -/
section
variable {P : Program} {ops : Array Oper}
theorem quietIn_of_quiet {n : Nat} {o : Oper} {a : Act} {C : World → Prop} {K K' : Act → Prop} (hk : ∀ a, K a → K' a) (h : o.quiet P a C K) : o.quietIn Fence.wide n P a C K' := by
  obtain ⟨v, h1, h2⟩ := h
  refine ⟨v, fun w hw => ?_, hk _ h2⟩
  have h3 := h1 w hw
  unfold Oper.quietAt at h3
  unfold Oper.quietAtIn
  generalize Sem.run P (execOp a.eval o) w = r at h3 ⊢
  cases r with
  | ok x w' =>
    cases x with
    | enter f args => exact ⟨h3.1, fun h => absurd h (by decide), callsIn_wide.2 h3.2⟩
    | _ => exact h3
  | halt x w' => exact h3
theorem quiet_wide {n : Nat} {C : World → Prop} {Q : Act → Prop} : ∀ (l : List Oper) (a : Act), wpQuiet P ops C Q l a → wpQuietIn Fence.wide n P ops C Q l a
  | [], _, h => h
  | o :: rest, a, h => by
    refine ⟨fun _ _ _ _ => trivial, ?_⟩
    have h0 : if Region.wanted o (yielded ops a.tmps) then o.quiet P a C (wpQuiet P ops C Q rest) else wpQuiet P ops C Q rest (a.put o.dst undef) := h
    split
    · rename_i hw
      rw [if_pos hw] at h0
      exact quietIn_of_quiet (fun a => quiet_wide rest a) h0
    · rename_i hw
      rw [if_neg hw] at h0
      exact quiet_wide rest _ h0
def noDefer (l : List Oper) : Bool := l.all fun o => match o.op with
  | .defer _ => false
  | _ => true
theorem noDefer_spec {l : List Oper} (h : noDefer l = true) {i : Nat} {o : Oper} (ho : l.toArray[i]? = some o) : ∀ c, o.op ≠ .defer c := by
  intro c hc
  have h1 := List.all_eq_true.1 h o (by
    have : l[i]? = some o := by simpa using ho
    exact List.mem_of_getElem? this)
  rw [hc] at h1
  cases h1
theorem any_round {lr n : Nat} {md : Region.Mode} {Q : Exit → Act → World → Prop} (hd : ∀ (i : Nat) (o : Oper), ops[i]? = some o → ∀ c, o.op ≠ .defer c) :
    ∀ (fuel : Nat) (listed : Array Bool) (a : Act) (w : World), wpAnyIn Fence.wide n P md ops Q fuel listed a w → wpAnyIn (Fence.wide.inRound lr) n P md ops Q fuel listed a w
  | 0, _, _, _, h => h
  | fuel + 1, listed, a, w, h => by
    refine ⟨h.1, fun i hi => ?_⟩
    have h1 := wpOpIn_mono (fun a w => any_round (lr := lr) hd fuel (listed.setIfInBounds i true) a w) (h.2 i hi)
    unfold wpOpIn at h1 ⊢
    cases ho : ops[i]? with
    | none => rw [ho] at h1; exact h1
    | some o =>
      rw [ho] at h1
      simp only at h1 ⊢
      split
      · rename_i hw
        rw [if_pos hw] at h1
        refine ⟨h1.1, ?_⟩
        have h2 := h1.2
        rw [show Fence.wide.round = none from rfl, Oper.semAt_none] at h2
        show Oper.uponIn _ n P o a _ Q (Sem.run P (o.semAt (some lr) a.eval) w)
        rw [Oper.semAt_some lr _ _ (hd i o ho)]
        exact h2
      · rename_i hw
        rw [if_neg hw] at h1
        exact h1
end
theorem region_round {P : Program} {id : Nat} {Q : Exit → Act → World → Prop} {a : Act} {w : World} {l : List Oper} {lr n : Nat} (hm : P.follows .mixedOrders = true) (hB : Region.lexB .any l.toArray = true) (hd : noDefer l = true)
    (h : wpQuiet P l.toArray (fun w' => ∃ p : Regrown, w' = grow (redrawn w p.d) p.os) (fun a' => ∀ w', (∃ p : Regrown, w' = grow (redrawn w p.d) p.os) → Q .normal a' w') l a) : (Code.region id l.toArray true).wpIn (Fence.wide.inRound lr) n P Q a w := by
  have hB' := hB
  simp only [Region.lexB, Bool.and_eq_true] at hB'
  refine wpIn_region_any hm (any_round (fun i o ho => noDefer_spec hd ho) _ _ _ _ (wpAnyIn_of_quiet (C := fun w' => ∃ p : Regrown, w' = grow (redrawn w p.d) p.os) (Q := fun a' => ∀ w', (∃ p : Regrown, w' = grow (redrawn w p.d) p.os) → Q .normal a' w') rfl (fun _ w' hw' h => h w' hw') _ _ _ _ ⟨⟨w.drawn + 1, #[]⟩, by rw [grow_empty]; rfl⟩ ?_))
  have := wpAnyQIn_lex (F := Fence.wide) (n := n) (md := .any) hB'.1 l 0 (Array.replicate l.toArray.size false) a (by simp) (by simpa using hB'.2) (quiet_wide l a h)
  simpa using this
end Go.Proofs.Ytkklacgoeopekaa

namespace Go.Proofs.Ytkklacgoeopekaa
open Go.RowKit
set_option linter.unusedVariables false

/-- what plain asks -/
def Pl (p : Nat) (r : Int) : Prop := 3 ≤ p ∧ p ≤ 65535 ∧ Mr.Pr p ∧ 1 ≤ r ∧ p ^ r.toNat ≤ 2147483647
def RetPl (w : World) (p : Nat) (r : Int) (e : Ending) (w' : World) : Prop :=
  Below w.heap.size w w' ∧ ((Pl p r ∧ e = .returned (.tuple #[.int .u64 (((p ^ r.toNat : Nat) : Nat) : Int), .bool true])) ∨ (¬ Pl p r ∧ e = .returned (.tuple #[.int .u64 0, .bool false])))

set_option maxHeartbeats 1000000 in
theorem plain_any (p : Nat) (r : Int) (w : World) (hp : p ≤ 4294967295) (hr : r ≤ 9223372036854775807) : Calls Try.prog 24 #[.int .u32 p, .int .i64 r] w (RetPl w p r) := by
  have HP := Lib.hid (prime_any p w hp)
  by_cases h0 : 3 ≤ p ∧ p ≤ 65535 ∧ prB p = true ∧ 1 ≤ r
  rotate_left
  · have HN : Hid (¬ Pl p r) := Lib.hid fun h => h0 ⟨h.1, h.2.1, prB_yes h.2.2.1, h.2.2.2.1⟩
    have hc : p < 3 ∨ (3 ≤ p ∧ 65535 < p) ∨ (3 ≤ p ∧ p ≤ 65535 ∧ prB p = false) ∨ (3 ≤ p ∧ p ≤ 65535 ∧ prB p = true ∧ r < 1) := by
      rcases Nat.lt_or_ge p 3 with g1 | g1
      · exact .inl g1
      rcases Nat.lt_or_ge 65535 p with g2 | g2
      · exact .inr (.inl ⟨g1, g2⟩)
      cases hb : prB p with
      | false => exact .inr (.inr (.inl ⟨g1, g2, rfl⟩))
      | true => exact .inr (.inr (.inr ⟨g1, g2, rfl, by
          rcases Int.lt_or_le r 1 with g3 | g3
          · exact g3
          · exact absurd ⟨g1, g2, hb, g3⟩ h0⟩))
    clear h0
    rcases hc with h1 | ⟨h1, h2⟩ | ⟨h1, h2, h3⟩ | ⟨h1, h2, h3, h4⟩
    all_goals
      first
        | have d1 : decide ((p : Int) < 3) = true := decide_eq_true (by omega)
        | have d1 : decide ((p : Int) < 3) = false := decide_eq_false (by omega)
      try first
        | have d2 : decide ((p : Int) > 65535) = true := decide_eq_true (by omega)
        | have d2 : decide ((p : Int) > 65535) = false := decide_eq_false (by omega)
      try rw [h3] at HP
      try have d3 : decide (r < 1) = true := decide_eq_true (by omega)
      go_enter Try.func24, Try.ntmps24
      go_wp2_with (go_at_call 43; refine HP.out.mono ?_; rintro e w' ⟨rfl, hb1⟩)
      go_ret2
      exact ⟨by first | assumption | exact Below.refl _ _, .inr ⟨HN.out, rfl⟩⟩
  · obtain ⟨h1, h2, h3, h4⟩ := h0
    obtain ⟨k, rfl⟩ : ∃ k : Nat, r = (k : Int) := ⟨r.toNat, by omega⟩
    have d1 : decide ((p : Int) < 3) = false := decide_eq_false (by omega)
    have d2 : decide ((p : Int) > 65535) = false := decide_eq_false (by omega)
    have d3 : decide ((k : Int) < 1) = false := decide_eq_false (by omega)
    rw [h3] at HP
    have HPR : Hid (Mr.Pr p) := Lib.hid (prB_true.1 h3)
    clear h3
    go_enter Try.func24, Try.ntmps24
    go_wp2_with (go_at_call 43; refine HP.out.mono ?_; rintro e w' ⟨rfl, hb1⟩)
    go_loop [6, 23] (fun M I => ∃ i m : Nat, M = .int .u64 (m : Int) ∧ I = .int .i64 (i : Int) ∧ i ≤ k ∧ m ≤ 2147483647 ∧ p ^ i = m) (fun _ I => k - (intOf I).toNat)
    case atStart => exact ⟨0, 1, rfl, rfl, Nat.zero_le _, by omega, Nat.pow_zero p⟩
    case round =>
      obtain ⟨i, m, rfl, rfl, hik, hmb, hpm⟩ := hrel
      have HPM := Lib.hid hpm
      clear hpm
      by_cases hlt : i < k
      · obtain ⟨m2, hm2⟩ : ∃ m2, m * p = m2 := ⟨_, rfl⟩
        have hm2i : (m : Int) * (p : Int) = (m2 : Int) := by rw [← hm2]; simp
        have hm2b : m2 ≤ 2147483647 * 65535 := by rw [← hm2]; exact Nat.mul_le_mul hmb h2
        have hp2 : p ^ (i + 1) = m2 := by rw [Nat.pow_succ, HPM.out, hm2]
        have HP2 := Lib.hid hp2
        clear hm2 hp2
        by_cases hbig : 2147483647 < m2
        · have d4 : decide ((m2 : Int) > 2147483647) = true := decide_eq_true (by omega)
          have HN : Hid (¬ Pl p (k : Int)) := Lib.hid fun h => by
            have h5 := h.2.2.2.2
            rw [Int.toNat_natCast] at h5
            have := Nat.pow_le_pow_right (show 0 < p by omega) (show i + 1 ≤ k by omega)
            have := HP2.out
            omega
          go_wp2
          go_ret2
          exact ⟨by assumption, .inr ⟨HN.out, rfl⟩⟩
        · have d4 : decide ((m2 : Int) > 2147483647) = false := decide_eq_false (by omega)
          go_wp2
          go_round
          case rel => exact ⟨i + 1, m2, rfl, by go_num, hlt, by omega, HP2.out⟩
          case measure => simp only [intOf]; omega
      · obtain rfl : k = i := by omega
        have HPL : Hid (Pl p (k : Int) ∧ p ^ (k : Int).toNat = m) := Lib.hid ⟨⟨h1, h2, HPR.out, by omega, by rw [Int.toNat_natCast, HPM.out]; exact hmb⟩, by rw [Int.toNat_natCast, HPM.out]⟩
        go_wp2
        go_ret2
        exact ⟨by assumption, .inl ⟨HPL.out.1, by rw [HPL.out.2]; rfl⟩⟩
end Go.Proofs.Ytkklacgoeopekaa

namespace Go.Proofs.Ytkklacgoeopekaa
open Go.RowKit
set_option linter.unusedVariables false

def dimF (n : Int) : Prop := n = 2 ∨ n = 4 ∨ n = 8 ∨ n = 16 ∨ n = 32
theorem dimF_bools {n : Nat} (hd : dimF (n : Int)) : ((n : Int) == 2) = true ∨ (((n : Int) == 2) = false ∧ ((n : Int) == 4) = true) ∨ (((n : Int) == 2) = false ∧ ((n : Int) == 4) = false ∧ ((n : Int) == 8) = true) ∨ (((n : Int) == 2) = false ∧ ((n : Int) == 4) = false ∧ ((n : Int) == 8) = false ∧ ((n : Int) == 16) = true) ∨ (((n : Int) == 2) = false ∧ ((n : Int) == 4) = false ∧ ((n : Int) == 8) = false ∧ ((n : Int) == 16) = false ∧ ((n : Int) == 32) = true) := by
  unfold dimF at hd
  simp only [beq_iff_eq, beq_eq_false_iff_ne]
  omega
theorem dimF_nat {n : Int} (hd : dimF n) : ∃ k : Nat, n = (k : Int) ∧ 2 ≤ k ∧ k ≤ 32 := by
  unfold dimF at hd
  exact ⟨n.toNat, by omega, by omega, by omega⟩
theorem odd16 : ∀ x, x < 64 → x % 2 = 1 → x ^ 16 % 64 = 1 := by decide +kernel
/-- the order of an odd number modulo 2 n divides 16 -/
theorem deg_16 {n p : Nat} (hn : dimF (n : Int)) (hp : p % 2 = 1) : p ^ 16 % (2 * n) = 1 := by
  have h1 := odd16 (p % 64) (Nat.mod_lt _ (by omega)) (by omega)
  rw [← Nat.pow_mod] at h1
  unfold dimF at hn
  have hd : 2 * n ∣ 64 := by
    have : n = 2 ∨ n = 4 ∨ n = 8 ∨ n = 16 ∨ n = 32 := by omega
    rcases this with rfl | rfl | rfl | rfl | rfl <;> decide
  rw [← Nat.mod_mod_of_dvd _ hd, h1]
  have : n = 2 ∨ n = 4 ∨ n = 8 ∨ n = 16 ∨ n = 32 := by omega
  rcases this with rfl | rfl | rfl | rfl | rfl <;> rfl
/-- the degree: the least d from 1 on -/
def Dg (n p d : Nat) : Prop := 1 ≤ d ∧ p ^ d % (2 * n) = 1 ∧ ∀ e, 1 ≤ e → e < d → p ^ e % (2 * n) ≠ 1
theorem Dg.le {n p d : Nat} (h : Dg n p d) (hn : dimF (n : Int)) (hp : p % 2 = 1) : d ≤ 16 := by
  rcases Nat.lt_or_ge 16 d with h1 | h1
  · exact absurd (deg_16 hn hp) (h.2.2 16 (by omega) h1)
  · exact h1
theorem pr_odd {p : Nat} (h : Mr.Pr p) (h3 : 3 ≤ p) : p % 2 = 1 := by
  rcases Nat.mod_two_eq_zero_or_one p with h1 | h1
  · rcases h.2 2 (Nat.dvd_of_mod_eq_zero h1) with h2 | h2 <;> omega
  · exact h1
def DgOk (n : Int) (p : Nat) : Prop := dimF n ∧ Pl p 1
def RetDg (w : World) (n : Int) (p : Nat) (e : Ending) (w' : World) : Prop :=
  Below w.heap.size w w' ∧ ((¬ DgOk n p ∧ e = .returned (.tuple #[.int .i64 0, .int .i64 2])) ∨ (DgOk n p ∧ ∃ d : Nat, Dg n.toNat p d ∧ e = .returned (.tuple #[.int .i64 (d : Int), .int .i64 0])))

set_option maxRecDepth 100000 in
set_option maxHeartbeats 2000000 in
theorem degree_any (n : Int) (p : Nat) (w : World) (hp : p ≤ 4294967295) : Calls Try.prog 16 #[.int .i64 n, .int .u32 p] w (RetDg w n p) := by
  by_cases hd : dimF n
  rotate_left
  · have HN : Hid (¬ DgOk n p) := Lib.hid fun h2 => hd h2.1
    unfold dimF at hd
    have q1 : (n == 2) = false := by simp; omega
    have q2 : (n == 4) = false := by simp; omega
    have q3 : (n == 8) = false := by simp; omega
    have q4 : (n == 16) = false := by simp; omega
    have q5 : (n == 32) = false := by simp; omega
    clear hd
    go_enter Try.func16, Try.ntmps16
    go_wp2
    go_ret2
    exact ⟨Below.refl _ _, .inl ⟨HN.out, rfl⟩⟩
  obtain ⟨k, rfl, hk2, hk32⟩ := dimF_nat hd
  have HP := Lib.hid (plain_any p 1 w hp (by omega))
  have HD := Lib.hid hd
  have hcs := dimF_bools hd
  clear hd
  rcases hcs with d1 | ⟨d1, d2⟩ | ⟨d1, d2, d3⟩ | ⟨d1, d2, d3, d4⟩ | ⟨d1, d2, d3, d4, d5⟩
  all_goals
    go_enter Try.func16, Try.ntmps16
    go_wp2_with fail
    (with_reducible refine HP.out.mono ?_)
    rintro e w1 ⟨hb1, hh⟩
    rcases hh with ⟨hpl, rfl⟩ | ⟨hpl, rfl⟩
    rotate_left
    · have HN : Hid (¬ DgOk (k : Int) p) := Lib.hid fun h2 => hpl h2.2
      clear hpl
      go_wp2_with fail
      go_ret2
      exact ⟨hb1, .inl ⟨HN.out, rfl⟩⟩
    have hp3 := hpl.1
    have hp6 := hpl.2.1
    have HODD := Lib.hid (pr_odd hpl.2.2.1 hpl.1)
    have HPL := Lib.hid hpl
    obtain ⟨x0, hx0⟩ : ∃ x0, p % (2 * k) = x0 := ⟨_, rfl⟩
    have hx0i : (p : Int) % (2 * (k : Int)) = (x0 : Int) := by rw [← hx0]; simp
    have hx0t : (p : Int).tmod (2 * (k : Int)) = (x0 : Int) := by rw [Int.tmod_eq_emod_of_nonneg (by omega), hx0i]
    have hx0b : x0 < 2 * k := by rw [← hx0]; exact Nat.mod_lt _ (by omega)
    have HX0 := Lib.hid hx0
    clear hpl hx0
    go_wp2
    go_quiet (fail)
    go_wp2
    go_loopw [8, 9] (fun D X wr => ∃ d x : Nat, D = .int .i64 (d : Int) ∧ X = .int .u32 (x : Int) ∧ 1 ≤ d ∧ d ≤ 16 ∧ x < 2 * k ∧ p ^ d % (2 * k) = x ∧ (∀ e, 1 ≤ e → e < d → p ^ e % (2 * k) ≠ 1) ∧ Below w.heap.size w wr) (fun D _ _ => 17 - (intOf D).toNat)
    case atStart => exact ⟨1, x0, rfl, rfl, Nat.le_refl _, by omega, hx0b, by rw [Nat.pow_one, HX0.out], fun e h1 h2 => by omega, below_drewN hb1 _⟩
    case round =>
      obtain ⟨d, x, rfl, rfl, hd1, hd16, hxb, hpx, hno, hbr⟩ := hrel
      have HPX := Lib.hid hpx
      have HNO := Lib.hid hno
      clear hpx hno
      by_cases hx1 : x = 1
      · have e1 : ((x : Int) != 1) = false := by simp; omega
        have HDG : Hid (Dg (k : Int).toNat p d) := Lib.hid (by rw [Int.toNat_natCast]; exact ⟨hd1, HPX.out.trans hx1, HNO.out⟩)
        clear hx1
        go_wp2
        go_ret2
        exact ⟨hbr, .inr ⟨⟨HD.out, HPL.out⟩, d, HDG.out, rfl⟩⟩
      · have e1 : ((x : Int) != 1) = true := by simp; omega
        have hdlt : d < 16 := by
          rcases Nat.lt_or_ge d 16 with h | h
          · exact h
          · exfalso
            have h16 := deg_16 HD.out HODD.out
            rw [show 16 = d by omega, HPX.out] at h16
            exact hx1 h16
        obtain ⟨mm, hmm⟩ : ∃ mm, x * x0 = mm := ⟨_, rfl⟩
        have hmi : (x : Int) * (x0 : Int) = (mm : Int) := by rw [← hmm]; simp
        have hmb : mm ≤ 64 * 64 := by rw [← hmm]; exact Nat.mul_le_mul (by omega) (by omega)
        obtain ⟨x2, hx2⟩ : ∃ x2, mm % (2 * k) = x2 := ⟨_, rfl⟩
        have hx2i : (mm : Int) % (2 * (k : Int)) = (x2 : Int) := by rw [← hx2]; simp
        have hx2t : (mm : Int).tmod (2 * (k : Int)) = (x2 : Int) := by rw [Int.tmod_eq_emod_of_nonneg (by omega), hx2i]
        have hx2b : x2 < 2 * k := by rw [← hx2]; exact Nat.mod_lt _ (by omega)
        have HNX : Hid (p ^ (d + 1) % (2 * k) = x2 ∧ ∀ e, 1 ≤ e → e < d + 1 → p ^ e % (2 * k) ≠ 1) := Lib.hid ⟨by rw [Nat.pow_succ, Nat.mul_mod, HPX.out, HX0.out, hmm, hx2], fun e h1 h2 => by
          rcases Nat.lt_or_ge e d with h | h
          · exact HNO.out e h1 h
          · rw [show e = d by omega, HPX.out]; exact hx1⟩
        clear hx1 hmm hx2
        go_wp2
        try go_quiet (fail)
        try go_wp2
        go_roundw
        case rel => exact ⟨d + 1, x2, by go_num, rfl, by omega, by omega, hx2b, HNX.out.1, HNX.out.2, by first | exact hbr | exact below_drewN hbr _⟩
        case measure => simp only [intOf]; omega
end Go.Proofs.Ytkklacgoeopekaa

namespace Go.Proofs.Ytkklacgoeopekaa

theorem sumN_add (f g : Nat → Nat) : ∀ n, sumN (fun i => f i + g i) n = sumN f n + sumN g n
  | 0 => rfl
  | n + 1 => by rw [sumN, sumN, sumN, sumN_add f g n]; omega
theorem sumN_mul_left (c : Nat) (f : Nat → Nat) : ∀ n, sumN (fun i => c * f i) n = c * sumN f n
  | 0 => rfl
  | n + 1 => by rw [sumN, sumN, sumN_mul_left c f n, Nat.mul_add]
theorem sumN_mul_right (c : Nat) (f : Nat → Nat) : ∀ n, sumN (fun i => f i * c) n = sumN f n * c
  | 0 => by simp [sumN]
  | n + 1 => by rw [sumN, sumN, sumN_mul_right c f n, Nat.add_mul]
theorem sumN_head (f : Nat → Nat) : ∀ n, sumN f (n + 1) = f 0 + sumN (fun i => f (i + 1)) n
  | 0 => by simp [sumN]
  | n + 1 => by rw [sumN, sumN_head f n, sumN, Nat.add_assoc]
theorem sumN_rev (f : Nat → Nat) : ∀ n, sumN (fun i => f (n - i)) (n + 1) = sumN f (n + 1)
  | 0 => rfl
  | n + 1 => by
    have e : sumN (fun i => f (n + 1 - (i + 1))) (n + 1) = sumN (fun i => f (n - i)) (n + 1) := sumN_congr _ fun i _ => by rw [Nat.add_sub_add_right]
    rw [sumN_head, Nat.sub_zero, e, sumN_rev f n]
    exact Nat.add_comm _ _
theorem sumN_mod {m : Nat} {f g : Nat → Nat} : ∀ n, (∀ i, i < n → f i % m = g i % m) → sumN f n % m = sumN g n % m
  | 0, _ => rfl
  | n + 1, h => by rw [sumN, sumN, Nat.add_mod, sumN_mod n (fun i hi => h i (by omega)), h n (by omega), ← Nat.add_mod]
/-- two sums may change places -/
theorem sumN_swap (f : Nat → Nat → Nat) (m : Nat) : ∀ n, sumN (fun i => sumN (f i) m) n = sumN (fun j => sumN (fun i => f i j) n) m
  | 0 => by
    have : ∀ m, sumN (fun _ => sumN (fun i => f i 0) 0) m = 0 := fun m => sumN_zero m fun _ _ => rfl
    exact (sumN_zero m fun _ _ => rfl).symm
  | n + 1 => by
    rw [sumN, sumN_swap f m n, ← sumN_add]
    rfl

/-- the product's coefficient k -/
def conv (a b : Nat → Nat) (k : Nat) : Nat := sumN (fun t => a t * b (k - t)) (k + 1)

theorem mulF_conv (m : Nat) (a b : Nat → Nat) (k : Nat) : mulF m a b k = conv a b k % m := rfl

theorem conv_comm (a b : Nat → Nat) (k : Nat) : conv a b k = conv b a k := by
  unfold conv
  rw [← sumN_rev]
  exact sumN_congr _ fun i hi => by rw [Nat.mul_comm, show k - (k - i) = i from by omega]

/-- the terms of a triple product, by the first two places -/
theorem conv_conv (a b c : Nat → Nat) (k : Nat) : conv (conv a b) c k = sumN (fun i => sumN (fun j => if i + j ≤ k then a i * b j * c (k - (i + j)) else 0) (k + 1)) (k + 1) := by
  have e1 : conv (conv a b) c k = sumN (fun s => sumN (fun i => if i ≤ s then a i * b (s - i) * c (k - s) else 0) (k + 1)) (k + 1) := by
    unfold conv
    refine sumN_congr _ fun s hs => ?_
    rw [← sumN_mul_right]
    obtain ⟨d, hd⟩ := Nat.exists_eq_add_of_le (show s + 1 ≤ k + 1 by omega)
    rw [hd]
    rw [sumN_more d (fun i h1 _ => if_neg (by omega))]
    exact sumN_congr _ fun i hi => by rw [if_pos (by omega)]
  rw [e1, sumN_swap]
  refine sumN_congr _ fun i hi => ?_
  -- for this i: s = i + j
  have e2 : ∀ n, sumN (fun s => if i ≤ s then a i * b (s - i) * c (k - s) else 0) (i + n) = sumN (fun j => a i * b j * c (k - (i + j))) n := by
    intro n
    induction n with
    | zero => exact sumN_zero _ fun s hs => if_neg (by omega)
    | succ n ih =>
      rw [← Nat.add_assoc, sumN, ih, sumN, if_pos (by omega), Nat.add_sub_cancel_left]
  obtain ⟨d, hd⟩ := Nat.exists_eq_add_of_le (show i ≤ k + 1 by omega)
  rw [hd, e2 d]
  have e3 : i + d = d + i := Nat.add_comm _ _
  rw [e3, sumN_more i (fun j h1 _ => if_neg (by omega))]
  exact sumN_congr _ fun j hj => by rw [if_pos (by omega)]

theorem conv_assoc (a b c : Nat → Nat) (k : Nat) : conv (conv a b) c k = conv a (conv b c) k := by
  rw [conv_comm a (conv b c), conv_conv, conv_conv]
  -- both are the sum over all i + j + l = k
  have key : ∀ (f g h : Nat → Nat), sumN (fun i => sumN (fun j => if i + j ≤ k then f i * g j * h (k - (i + j)) else 0) (k + 1)) (k + 1) = sumN (fun j => sumN (fun l => if j + l ≤ k then g j * h l * f (k - (j + l)) else 0) (k + 1)) (k + 1) := by
    intro f g h
    rw [sumN_swap]
    refine sumN_congr _ fun j hj => ?_
    -- for this j turn i into l = k - j - i
    have e : ∀ (F : Nat → Nat), (∀ i, k - j < i → F i = 0) → sumN F (k + 1) = sumN F (k - j + 1) := by
      intro F hF
      have : k + 1 = (k - j + 1) + j := by omega
      rw [this]
      exact sumN_more j fun i h1 _ => hF i (by omega)
    rw [e _ (fun i hi => if_neg (by omega)), e _ (fun i hi => if_neg (by omega)), ← sumN_rev]
    refine sumN_congr _ fun l hl => ?_
    rw [if_pos (by omega), if_pos (by omega), show k - (k - j - l + j) = l from by omega, show k - j - l = k - (j + l) from by omega]
    rw [Nat.mul_comm (f _) (g j), Nat.mul_assoc, Nat.mul_assoc, Nat.mul_comm (f _) (h l)]
  exact key a b c

theorem conv_add (a b c : Nat → Nat) (k : Nat) : conv (fun j => a j + b j) c k = conv a c k + conv b c k := by
  unfold conv
  rw [← sumN_add]
  exact sumN_congr _ fun i _ => Nat.add_mul _ _ _

theorem conv_mod {m : Nat} {a a' b b' : Nat → Nat} (ha : ∀ j, a j % m = a' j % m) (hb : ∀ j, b j % m = b' j % m) (k : Nat) : conv a b k % m = conv a' b' k % m :=
  sumN_mod _ fun i _ => by rw [Nat.mul_mod, ha, hb, ← Nat.mul_mod]

theorem mulF_comm (m : Nat) (a b : Nat → Nat) : mulF m a b = mulF m b a := funext fun k => by rw [mulF_conv, mulF_conv, conv_comm]
theorem mulF_assoc (m : Nat) (a b c : Nat → Nat) : mulF m (mulF m a b) c = mulF m a (mulF m b c) := funext fun k => by
  rw [mulF_conv, mulF_conv, conv_mod (a' := conv a b) (b' := c) (fun j => by rw [mulF_conv, Nat.mod_mod]) (fun _ => rfl), conv_assoc,
    conv_mod (a := a) (b := mulF m b c) (a' := a) (b' := conv b c) (fun _ => rfl) (fun j => by rw [mulF_conv, Nat.mod_mod])]
theorem mulF_add (m : Nat) (a b c : Nat → Nat) : mulF m (addF m a b) c = addF m (mulF m a c) (mulF m b c) := funext fun k => by
  unfold addF
  rw [mulF_conv, conv_mod (a' := fun j => a j + b j) (b' := c) (fun j => by rw [Nat.mod_mod]) (fun _ => rfl), conv_add, mulF_conv, mulF_conv, Nat.add_mod]
theorem subF_addF {m : Nat} {a b : Nat → Nat} (ha : ∀ j, a j < m) (hb : ∀ j, b j < m) : subF m (addF m a b) b = a := funext fun k => by
  unfold subF addF
  have h1 := ha k
  have h2 := hb k
  rcases Nat.lt_or_ge (a k + b k) m with h | h
  · rw [Nat.mod_eq_of_lt h, show a k + b k + m - b k = a k + m from by omega, Nat.add_mod_right, Nat.mod_eq_of_lt h1]
  · rw [Nat.mod_eq_sub_mod h, Nat.mod_eq_of_lt (show a k + b k - m < m by omega), show a k + b k - m + m - b k = a k from by omega, Nat.mod_eq_of_lt h1]
end Go.Proofs.Ytkklacgoeopekaa
