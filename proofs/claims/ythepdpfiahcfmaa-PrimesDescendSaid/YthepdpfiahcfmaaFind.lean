/- The contracts of primes.Below and primes.Next. -/
import Derived.Test.YthepdpfiahcfmaaSeq
import Derived.Test.YthepdpfiahcfmaaPrimeP
import Derived.RangeFuncBox
namespace Go.Proofs.Ythepdpfiahcfmaa
open Go.RowKit Go.Shelf
set_option linter.unusedVariables false
attribute [local go_sem] Oper.semAt_some

/-- the first prime of a sequence -/
def FindR (F : Nat → Nat) (In : Nat → Prop) (v E : Nat) : Prop := (∃ j, In j ∧ Mr.Pr (F j) ∧ (∀ i, i < j → ¬ Mr.Pr (F i)) ∧ v = F j ∧ E = 0) ∨ ((∀ i, In i → ¬ Mr.Pr (F i)) ∧ v = 0 ∧ E = 4)
theorem FindR.uniq {F : Nat → Nat} {In : Nat → Prop} {v E v' E' : Nat} (h : FindR F In v E) (h' : FindR F In v' E') : v' = v ∧ E' = E := by
  rcases h with ⟨j, h1, h2, h3, rfl, rfl⟩ | ⟨h1, rfl, rfl⟩ <;> rcases h' with ⟨j', g1, g2, g3, rfl, rfl⟩ | ⟨g1, rfl, rfl⟩
  · rcases Nat.lt_trichotomy j j' with h4 | h4 | h4
    · exact absurd h2 (g3 j h4)
    · rw [h4]; exact ⟨rfl, rfl⟩
    · exact absurd g2 (h3 j' h4)
  · exact absurd h2 (g1 j h1)
  · exact absurd g2 (h1 j' g1)
  · exact ⟨rfl, rfl⟩
def BelowR (L s v E : Nat) : Prop := ((s = 0 ∨ 2147483648 < L) ∧ v = 0 ∧ E = 2) ∨ (¬ (s = 0 ∨ 2147483648 < L) ∧ FindR (dnF s ((L - 2) / s)) (· < (L - 2) / s) v E)
theorem BelowR.uniq {L s v E v' E' : Nat} (h : BelowR L s v E) (h' : BelowR L s v' E') : v' = v ∧ E' = E := by
  rcases h with ⟨h1, rfl, rfl⟩ | ⟨h1, h2⟩ <;> rcases h' with ⟨g1, rfl, rfl⟩ | ⟨g1, g2⟩
  · exact ⟨rfl, rfl⟩
  · exact absurd h1 g1
  · exact absurd g1 h1
  · exact h2.uniq g2
def RetF (w : World) (R : Nat → Nat → Prop) (e : Ending) (w' : World) : Prop := ∃ v E : Nat, e = .returned (.tuple #[.int .u32 (v : Int), .int .i64 (E : Int)]) ∧ R v E ∧ Below w.heap.size w w'

/-- the boxes of the results: they read so, and nothing that was there has turned -/
structure Bx2 (w : World) (v E : Int) (W : World) : Prop where
  c1 : W.cell? ⟨w.heap.size, 0, none⟩ = some (.int .u32 v)
  c2 : W.cell? ⟨w.heap.size + 1, 0, none⟩ = some (.int .i64 E)
  f1 : W.frozen? ⟨w.heap.size, 0, none⟩ = false
  f2 : W.frozen? ⟨w.heap.size + 1, 0, none⟩ = false
  sz : w.heap.size + 2 ≤ W.heap.size
  b : Below w.heap.size w W
theorem Bx2.new (w : World) (v E : Int) (t1 t2 : Nat) : Bx2 w v E ((w.alloc (.cells #[.int .u32 v] t1)).alloc (.cells #[.int .i64 E] t2)) := by
  have c1 := box_new w (.int .u32 v) t1
  have z1 : (w.alloc (.cells #[.int .u32 v] t1)).heap.size = w.heap.size + 1 := World.size_alloc _ _
  have hb : Below w.heap.size w (w.alloc (.cells #[.int .u32 v] t1)) := (Below.refl _ w).alloc (Nat.le_refl _) _
  generalize w.alloc (.cells #[.int .u32 v] t1) = w1 at *
  have c2 := box_new w1 (.int .i64 E) t2
  rw [z1] at c2
  exact ⟨box_alloc _ c1.1, c2.1, box_frozen _ c1.1 c1.2, c2.2, by rw [World.size_alloc, z1]; omega, hb.alloc (by rw [z1]; omega) _⟩
theorem Bx2.grown {w A B : World} {v E : Int} {row : Option Nat} (h : Bx2 w v E A) (hg : A.grownBy B row) (hr : ∀ r, row = some r → w.heap.size ≤ r ∧ ∃ o : Obj, A.heap[r]? = some o ∧ o.isCells = false) : Bx2 w v E B where
  c1 := cell_kept h.c1 hg fun r e => (hr r e).2
  c2 := cell_kept h.c2 hg fun r e => (hr r e).2
  f1 := (frozen_kept h.c1 hg fun r e => (hr r e).2).trans h.f1
  f2 := (frozen_kept h.c2 hg fun r e => (hr r e).2).trans h.f2
  sz := Nat.le_trans h.sz hg.size
  b := h.b.grown hg h.b.size fun k e => (hr k e).1
theorem Bx2.next {w A B : World} {v E : Int} (h : Bx2 w v E A) (hb : Below A.heap.size A B) : Bx2 w v E B where
  c1 := (hb.cell (p := ⟨w.heap.size, 0, none⟩) (by have := h.sz; show w.heap.size < _; omega)).trans h.c1
  c2 := (hb.cell (p := ⟨w.heap.size + 1, 0, none⟩) (by have := h.sz; show w.heap.size + 1 < _; omega)).trans h.c2
  f1 := (hb.frozen (p := ⟨w.heap.size, 0, none⟩) (by have := h.sz; show w.heap.size < _; omega)).trans h.f1
  f2 := (hb.frozen (p := ⟨w.heap.size + 1, 0, none⟩) (by have := h.sz; show w.heap.size + 1 < _; omega)).trans h.f2
  sz := Nat.le_trans h.sz hb.size
  b := h.b.trans (hb.mono h.b.size)
theorem Bx2.put {w A : World} {v E v' E' : Int} (h : Bx2 w v E A) : Bx2 w v' E' ((A.setCell ⟨w.heap.size, 0, none⟩ (.int .u32 v')).setCell ⟨w.heap.size + 1, 0, none⟩ (.int .i64 E')) where
  c1 := by simp [go_sem, h.c1]
  c2 := by simp [go_sem, h.c2]
  f1 := by simp [go_sem, h.f1]
  f2 := by simp [go_sem, h.f2]
  sz := by simpa using h.sz
  b := (h.b.setCell (p := ⟨w.heap.size, 0, none⟩) (Nat.le_refl _) _).setCell (p := ⟨w.heap.size + 1, 0, none⟩) (Nat.le_succ _) _

set_option maxRecDepth 100000 in
set_option maxHeartbeats 2000000 in
theorem pbelow_any (L s : Nat) (w : World) (hL : L ≤ 4294967295) (hs : s ≤ 4294967295) :
    Calls Try.prog 8 #[.int .u32 L, .int .u32 s] w (RetF w (BelowR L s)) := by
  have hbx := Bx2.new w 0 0 22 23
  obtain ⟨w2, hw2⟩ : ∃ w2, w2 = (w.alloc (.cells #[.int .u32 0] 22)).alloc (.cells #[.int .i64 0] 23) := ⟨_, rfl⟩
  rw [← hw2] at hbx
  have c1 := hbx.c1
  have c2 := hbx.c2
  have f1 := hbx.f1
  have f2 := hbx.f2
  refine calls_of_marks Try.func8 rfl ?_
  simp only [Try.ntmps8, List.size_toArray, List.length_cons, List.length_nil, Nat.reduceAdd, Nat.reduceSub, Array.replicate_succ, Array.replicate_zero, List.push_toArray, List.append_toArray, List.nil_append, List.cons_append]
  repeat
    fail_if_success rw [← hw2]
    go_step
  rw [← hw2]
  clear hw2
  have HBX := Lib.hid hbx
  have hz2 := hbx.sz
  clear hbx
  by_cases hbad : s = 0 ∨ 2147483648 < L
  · have hc : s = 0 ∨ (¬ s = 0 ∧ 2147483648 < L) := by omega
    have HBAD := Lib.hid hbad
    clear hbad
    rcases hc with h1 | ⟨h1, h2⟩
    · have q1 : ((s : Int) == 0) = true := by simp; omega
      have HS0 := Lib.hid h1
      clear h1
      go_wp2_with fail
      exact marks_end rfl (.tuple #[.int .u32 0, .int .i64 2]) (by simp [results, Try.f8, go_sem, c1, c2]) ⟨0, 2, rfl, .inl ⟨HBAD.out, rfl, rfl⟩, (HBX.out.b.setCell (p := ⟨w.heap.size, 0, none⟩) (Nat.le_refl _) _).setCell (p := ⟨w.heap.size + 1, 0, none⟩) (Nat.le_succ _) _⟩
    · have q1 : ((s : Int) == 0) = false := by simp; omega
      have q2 : decide ((L : Int) > 2147483648) = true := decide_eq_true (by omega)
      go_wp2_with fail
      exact marks_end rfl (.tuple #[.int .u32 0, .int .i64 2]) (by simp [results, Try.f8, go_sem, c1, c2]) ⟨0, 2, rfl, .inl ⟨HBAD.out, rfl, rfl⟩, (HBX.out.b.setCell (p := ⟨w.heap.size, 0, none⟩) (Nat.le_refl _) _).setCell (p := ⟨w.heap.size + 1, 0, none⟩) (Nat.le_succ _) _⟩
  have q1 : ((s : Int) == 0) = false := by simp; omega
  have q2 : decide ((L : Int) > 2147483648) = false := decide_eq_false (by omega)
  have HBAD := Lib.hid hbad
  obtain ⟨K, hK⟩ : ∃ K, (L - 2) / s = K := ⟨_, rfl⟩
  have HK := Lib.hid hK
  have hs0 : 0 < s := by omega
  have hL2 : L ≤ 2147483648 := by omega
  clear hbad hK
  go_wp2_with fail
  (with_reducible refine (down_any _ _ w2).mono ?_)
  rintro e w4 ⟨rfl, hw4⟩
  have k1 : w4.cell? ⟨w2.heap.size, 0, none⟩ = some (.int .u64 (L : Int)) := by rw [hw4]; exact box_alloc _ (box_new w2 _ _).1
  have k2 : Boxed w4 (w2.heap.size + 1) 35 (.int .u64 (s : Int)) := by
    rw [hw4]
    have := Boxed.new (w2.alloc (.cells #[.int .u64 (L : Int)] 35)) 35 (.int .u64 (s : Int))
    rwa [World.size_alloc] at this
  have hz4 : w4.heap.size = w2.heap.size + 2 := by rw [hw4, World.size_alloc, World.size_alloc]
  have hb4 : Below w2.heap.size w2 w4 := by rw [hw4]; exact ((Below.refl _ w2).alloc (Nat.le_refl _) _).alloc (by rw [World.size_alloc]; omega) _
  have HB4 := Lib.hid (HBX.out.next hb4)
  have HZ4 := Lib.hid hz4
  clear hw4 c1 c2 f1 f2 hz4
  go_wp2_with fail
  refine wp_rangeFunc_own (gf := 30) (lb := #[.pointer (some ⟨w2.heap.size, 0, none⟩), .pointer (some ⟨w2.heap.size + 1, 0, none⟩)]) rfl (enters_of Try.func30 (by kernel_rfl) rfl)
    (down_stops (Kp := Below w4.heap.size) Fence.wide 8 trivial rfl (by omega) L s K w2.heap.size (w2.heap.size + 1) w4 (fun _ _ h k => boxed_below k h (by rw [HZ4.out]; omega)) (by rw [HZ4.out]; omega) (by rw [HZ4.out]; omega) hL2 hs0 (by omega) HK.out.symm k1 k2) belowK_t (belowK_b (Nat.le_refl _)) (Below.refl _ _) (fun _ => rfl)
    (fun pre W => (CanF (dnF s K) pre → ∀ i, i < pre.length → ¬ Mr.Pr (dnF s K i)) ∧ Bx2 w 0 0 W ∧ w4.heap.size ≤ W.heap.size)
    (fun c xs W => c = .ret ∧ ∃ v : Nat, Bx2 w v 0 W ∧ (CanF (dnF s K) xs → FindR (dnF s K) (· < K) v 0))
    (fun t A B row hs hg hr => ⟨hs.1, hs.2.1.grown hg fun r e => ⟨by have := (hr r e).1; have := HZ4.out; omega, (hr r e).2⟩, Nat.le_trans hs.2.2 hg.size⟩)
    (fun c t A B row hs hg hr => ⟨hs.1, by
      obtain ⟨v, h1, h2⟩ := hs.2
      exact ⟨v, h1.grown hg fun r e => ⟨by have := (hr r e).1; have := HZ4.out; omega, (hr r e).2⟩, h2⟩⟩)
    ⟨fun _ i hi => absurd hi (Nat.not_lt_zero i), HB4.out, Nat.le_refl _⟩ ?ab ?done ?stop
  case ab =>
    apply Exists.intro
    refine ⟨?_, ?_⟩
    · intro l q W K hK
      simp only [encW]
      gi_wp2
      exact hK
    · rintro lr pre ⟨d, hd⟩ W ⟨hp, hbx, hsz⟩ hlen
      have HPP := Lib.hid hp
      have HBXX := Lib.hid hbx
      have HPRI := Lib.hid (prime_any d W (by omega))
      clear hp hbx k1 k2
      simp only
      obtain ⟨b, hb⟩ : ∃ b, prB d = b := ⟨_, rfl⟩
      rw [hb] at HPRI
      cases b
      · have hnp : ¬ Mr.Pr d := fun h => by rw [prB_yes h] at hb; cases hb
        have HNP := Lib.hid hnp
        clear hb hnp
        gi_wp2_with fail
        refine ⟨trivial, (CallsIn.inRound lr (callsIn_wide.2 HPRI.out)).mono ?_⟩
        rintro e w5 ⟨rfl, hb5⟩
        gi_wp2
        refine ⟨keeps_below hb5, hb5.mono hsz, fun hcan i hi => ?_, HBXX.out.next hb5, Nat.le_trans hsz hb5.size⟩
        obtain ⟨h1, h2⟩ := hcan.init
        rw [List.length_append, List.length_singleton] at hi
        rcases Nat.lt_or_ge i pre.length with h3 | h3
        · exact HPP.out h1 i h3
        · rw [show i = pre.length by omega, ← h2]
          exact HNP.out
      · have hpr := prB_true.1 hb
        have HNP := Lib.hid hpr
        clear hb hpr
        gi_wp2_with fail
        refine ⟨trivial, (CallsIn.inRound lr (callsIn_wide.2 HPRI.out)).mono ?_⟩
        rintro e w5 ⟨rfl, hb5⟩
        have hbx5 := HBXX.out.next hb5
        have c1 := hbx5.c1
        have c2 := hbx5.c2
        have f1 := hbx5.f1
        have f2 := hbx5.f2
        have HBX5 := Lib.hid hbx5
        clear hbx5
        gi_wp2
        refine ⟨((keeps_below hb5).trans (KeepsOthers.setCell _ _ _)).trans (KeepsOthers.setCell _ _ _), rfl, d, HBX5.out.put, fun hcan => ?_⟩
        obtain ⟨h1, h2⟩ := hcan.init
        exact .inl ⟨pre.length, hlen, by rw [← h2]; exact HNP.out, HPP.out h1, h2, rfl⟩
  case done =>
    rintro D ys W hD ⟨hcan, hlen⟩ ⟨hp, hbx, hsz⟩ hK
    have hnone : ∀ i, i < K → ¬ Mr.Pr (dnF s K i) := fun i hi => hp hcan i (by rw [hlen]; exact hi)
    have c1 := hbx.c1
    have c2 := hbx.c2
    have f1 := hbx.f1
    have f2 := hbx.f2
    have HBX5 := Lib.hid hbx
    have HNO := Lib.hid hnone
    have HKD := Lib.hid hK
    clear hp hcan hlen hbx hnone k1 k2 hK
    go_wp2_with fail
    have hK2 := (((KeepsOthers.setCell W ⟨w.heap.size, 0, none⟩ (.int .u32 0)).trans (KeepsOthers.setCell _ ⟨w.heap.size + 1, 0, none⟩ (.int .i64 4))).same D _ HKD.out rfl)
    have hbx6 := HBX5.out.put (v' := 0) (E' := 4)
    have d1 := box_shut hbx6.c1 hK2
    have d2 := box_shut hbx6.c2 hK2
    exact marks_end1 rfl hK2 (.tuple #[.int .u32 0, .int .i64 4]) (by simp [results, Try.f8, go_sem, d1, d2]) ⟨0, 4, rfl, .inr ⟨HBAD.out, by rw [HK.out]; exact .inr ⟨HNO.out, rfl, rfl⟩⟩, below_shut hbx6.b (by have := HZ4.out; omega) hK2⟩
  case stop =>
    rintro D c pre W hD hcan ⟨rfl, v, hbx, hf⟩ hK
    have d1 := box_shut hbx.c1 hK
    have d2 := box_shut hbx.c2 hK
    have hff := hf hcan
    have HFF := Lib.hid hff
    clear hf hff
    go_wp2
    exact marks_end1 rfl hK (.tuple #[.int .u32 v, .int .i64 0]) (by simp [results, Try.f8, go_sem, d1, d2]) ⟨v, 0, rfl, .inr ⟨HBAD.out, by rw [HK.out]; exact HFF.out⟩, below_shut hbx.b (by have := HZ4.out; omega) hK⟩
end Go.Proofs.Ythepdpfiahcfmaa
