/- The contract of primes.Chain: the walk. -/
import Derived.Test.YthepdpfiahcfmaaChain
import Derived.WalkMore
import Derived.Scope
namespace Go.Proofs.Ythepdpfiahcfmaa
open Go.RowKit Go.Shelf Go.Sort
set_option linter.unusedVariables false
attribute [local go_sem] Oper.semAt_some

theorem chBad_cases {n : Int} {t : Nat} {c : Int} (h : ChBad n t c) : dimB n = false ∨ (dimB n = true ∧ t < 3) ∨ (dimB n = true ∧ ¬ t < 3 ∧ t % 2 = 0) ∨ (dimB n = true ∧ ¬ t < 3 ∧ ¬ t % 2 = 0 ∧ 2147483647 < t) ∨ (dimB n = true ∧ ¬ t < 3 ∧ ¬ t % 2 = 0 ∧ ¬ 2147483647 < t ∧ c < 1) ∨ (dimB n = true ∧ ¬ t < 3 ∧ ¬ t % 2 = 0 ∧ ¬ 2147483647 < t ∧ ¬ c < 1 ∧ 25 < c) := by
  unfold ChBad at h
  cases hd : dimB n
  · exact .inl rfl
  · rw [hd] at h
    have h2 : t < 3 ∨ t % 2 = 0 ∨ 2147483647 < t ∨ c < 1 ∨ 25 < c := by
      rcases h with h | h
      · cases h
      · exact h
    simp only [true_and]
    omega

set_option maxRecDepth 100000 in
set_option maxHeartbeats 2000000 in
theorem pchain_bad (n c : Int) (t : Nat) (w : World) (ht : t ≤ 4294967295) (hc1 : -9223372036854775808 ≤ c) (hc2 : c ≤ 9223372036854775807) (hbad : ChBad n t c) :
    Calls Try.prog 13 #[.int .i64 n, .int .u32 t, .int .i64 c] w (RetCh w (ChR n t c)) := by
  have hbx := C3.new w c (.slice none 0 0) 0
  obtain ⟨w3, hw3⟩ : ∃ w3, w3 = (((w.alloc (.cells #[.int .i64 c] 3)).alloc (.cells #[.slice none 0 0] 28)).alloc (.cells #[.int .i64 0] 23)) := ⟨_, rfl⟩
  rw [← hw3] at hbx
  have k0 := hbx.b0.cell
  have k1 := hbx.b1.cell
  have k2 := hbx.b2.cell
  have f1 := hbx.b1.frozen
  have f2 := hbx.b2.frozen
  have HBX := Lib.hid hbx

  have HBAD := Lib.hid hbad
  have hc := chBad_cases hbad
  clear hbx hbad
  refine calls_of_marks Try.func13 rfl ?_
  simp only [Try.ntmps13, List.size_toArray, List.length_cons, List.length_nil, Nat.reduceAdd, Nat.reduceSub, Array.replicate_succ, Array.replicate_zero, List.push_toArray, List.append_toArray, List.nil_append, List.cons_append]
  repeat
    fail_if_success rw [← hw3]
    go_step
  rw [← hw3]
  clear hw3
  go_wp2
  go_step3
  rcases hc with h1 | ⟨h1, h2⟩ | ⟨h1, h2, h3⟩ | ⟨h1, h2, h3, h4⟩ | ⟨h1, h2, h3, h4, h5⟩ | ⟨h1, h2, h3, h4, h5, h6⟩
  · have HD := Lib.hid h1
    clear h1
    go_wp2_with fail
    (with_reducible refine (dim_b _ HD.out _).mono ?_)
    rintro e w4 ⟨rfl, hw4⟩
    subst hw4
    go_wp2_with fail
    have hp := HBX.out.put (.slice none 0 0) 2
    have d1 := hp.b1.cell
    have d2 := hp.b2.cell
    try rw [Exit.noGoto_ret]
    exact marks_end rfl (.tuple #[.slice none 0 0, .int .i64 2]) (by simp [results, Try.f13, go_sem, d1, d2]) ⟨none, 0, [], 2, rfl, Nat.le_refl _, Wl.nil _ _ _ _, .inl ⟨HBAD.out, rfl, rfl⟩, hp.bel⟩
  · have HD := Lib.hid h1
    have q1 : decide ((t : Int) < 3) = true := decide_eq_true (by omega)
    clear h1
    go_wp2_with fail
    (with_reducible refine (dim_b _ HD.out _).mono ?_)
    rintro e w4 ⟨rfl, hw4⟩
    subst hw4
    go_wp2_with fail
    have hp := HBX.out.put (.slice none 0 0) 2
    have d1 := hp.b1.cell
    have d2 := hp.b2.cell
    try rw [Exit.noGoto_ret]
    exact marks_end rfl (.tuple #[.slice none 0 0, .int .i64 2]) (by simp [results, Try.f13, go_sem, d1, d2]) ⟨none, 0, [], 2, rfl, Nat.le_refl _, Wl.nil _ _ _ _, .inl ⟨HBAD.out, rfl, rfl⟩, hp.bel⟩
  · have HD := Lib.hid h1
    have q1 : decide ((t : Int) < 3) = false := decide_eq_false (by omega)
    have q2 : ((t : Int) % 2 == 0) = true := by simp; omega
    clear h1 h3
    go_wp2_with fail
    (with_reducible refine (dim_b _ HD.out _).mono ?_)
    rintro e w4 ⟨rfl, hw4⟩
    subst hw4
    go_wp2_with fail
    have hp := HBX.out.put (.slice none 0 0) 2
    have d1 := hp.b1.cell
    have d2 := hp.b2.cell
    try rw [Exit.noGoto_ret]
    exact marks_end rfl (.tuple #[.slice none 0 0, .int .i64 2]) (by simp [results, Try.f13, go_sem, d1, d2]) ⟨none, 0, [], 2, rfl, Nat.le_refl _, Wl.nil _ _ _ _, .inl ⟨HBAD.out, rfl, rfl⟩, hp.bel⟩
  · have HD := Lib.hid h1
    have q1 : decide ((t : Int) < 3) = false := decide_eq_false (by omega)
    have q2 : ((t : Int) % 2 == 0) = false := by simp; omega
    have q3 : decide ((t : Int) > 2147483647) = true := decide_eq_true (by omega)
    clear h1 h3
    go_wp2_with fail
    (with_reducible refine (dim_b _ HD.out _).mono ?_)
    rintro e w4 ⟨rfl, hw4⟩
    subst hw4
    go_wp2_with fail
    have hp := HBX.out.put (.slice none 0 0) 2
    have d1 := hp.b1.cell
    have d2 := hp.b2.cell
    try rw [Exit.noGoto_ret]
    exact marks_end rfl (.tuple #[.slice none 0 0, .int .i64 2]) (by simp [results, Try.f13, go_sem, d1, d2]) ⟨none, 0, [], 2, rfl, Nat.le_refl _, Wl.nil _ _ _ _, .inl ⟨HBAD.out, rfl, rfl⟩, hp.bel⟩
  · have HD := Lib.hid h1
    have q1 : decide ((t : Int) < 3) = false := decide_eq_false (by omega)
    have q2 : ((t : Int) % 2 == 0) = false := by simp; omega
    have q3 : decide ((t : Int) > 2147483647) = false := decide_eq_false (by omega)
    have q4 : decide (c < 1) = true := decide_eq_true (by omega)
    clear h1 h3
    go_wp2_with fail
    (with_reducible refine (dim_b _ HD.out _).mono ?_)
    rintro e w4 ⟨rfl, hw4⟩
    subst hw4
    go_wp2_with fail
    have hp := HBX.out.put (.slice none 0 0) 2
    have d1 := hp.b1.cell
    have d2 := hp.b2.cell
    try rw [Exit.noGoto_ret]
    exact marks_end rfl (.tuple #[.slice none 0 0, .int .i64 2]) (by simp [results, Try.f13, go_sem, d1, d2]) ⟨none, 0, [], 2, rfl, Nat.le_refl _, Wl.nil _ _ _ _, .inl ⟨HBAD.out, rfl, rfl⟩, hp.bel⟩
  · have HD := Lib.hid h1
    have q1 : decide ((t : Int) < 3) = false := decide_eq_false (by omega)
    have q2 : ((t : Int) % 2 == 0) = false := by simp; omega
    have q3 : decide ((t : Int) > 2147483647) = false := decide_eq_false (by omega)
    have q4 : decide (c < 1) = false := decide_eq_false (by omega)
    have q5 : decide (c > 25) = true := decide_eq_true (by omega)
    clear h1 h3
    go_wp2_with fail
    (with_reducible refine (dim_b _ HD.out _).mono ?_)
    rintro e w4 ⟨rfl, hw4⟩
    subst hw4
    go_wp2_with fail
    have hp := HBX.out.put (.slice none 0 0) 2
    have d1 := hp.b1.cell
    have d2 := hp.b2.cell
    try rw [Exit.noGoto_ret]
    exact marks_end rfl (.tuple #[.slice none 0 0, .int .i64 2]) (by simp [results, Try.f13, go_sem, d1, d2]) ⟨none, 0, [], 2, rfl, Nat.le_refl _, Wl.nil _ _ _ _, .inl ⟨HBAD.out, rfl, rfl⟩, hp.bel⟩
end Go.Proofs.Ythepdpfiahcfmaa
