/- The contract of primes.Next. -/
import Derived.Test.YthepdpfiahcfmaaFind
namespace Go.Proofs.Ythepdpfiahcfmaa
open Go.RowKit Go.Shelf
set_option linter.unusedVariables false
attribute [local go_sem] Oper.semAt_some

/-- where the search from at begins -/
def nxK (a s : Nat) : Nat := max 1 ((a - 1 + s - 1) / s)
def NextR (a s v E : Nat) : Prop := (s = 0 ∧ v = 0 ∧ E = 2) ∨ (s ≠ 0 ∧ FindR (upF s (nxK a s * s + 1)) (fun j => upF s (nxK a s * s + 1) j ≤ 2147483647) v E)
theorem NextR.uniq {L s v E v' E' : Nat} (h : NextR L s v E) (h' : NextR L s v' E') : v' = v ∧ E' = E := by
  rcases h with ⟨h1, rfl, rfl⟩ | ⟨h1, h2⟩ <;> rcases h' with ⟨g1, rfl, rfl⟩ | ⟨g1, g2⟩
  · exact ⟨rfl, rfl⟩
  · exact absurd h1 g1
  · exact absurd g1 h1
  · exact h2.uniq g2
theorem nxK_le {a s : Nat} (hs : 0 < s) (ha : a ≤ 4294967295) (hs2 : s ≤ 4294967295) : 1 ≤ nxK a s ∧ nxK a s * s ≤ 8589934592 := by
  unfold nxK
  have h1 : (a - 1 + s - 1) / s * s ≤ a - 1 + s - 1 := Nat.div_mul_le_self _ _
  refine ⟨Nat.le_max_left _ _, ?_⟩
  rcases Nat.le_total 1 ((a - 1 + s - 1) / s) with h | h
  · rw [Nat.max_eq_right h]; omega
  · rw [Nat.max_eq_left h]; omega

set_option maxRecDepth 100000 in
set_option maxHeartbeats 2000000 in
theorem pnext_any (a s : Nat) (w : World) (ha : a ≤ 4294967295) (hs : s ≤ 4294967295) :
    Calls Try.prog 10 #[.int .u32 a, .int .u32 s] w (RetF w (NextR a s)) := by
  have hbx := Bx2.new w 0 0 22 23
  obtain ⟨w2, hw2⟩ : ∃ w2, w2 = (w.alloc (.cells #[.int .u32 0] 22)).alloc (.cells #[.int .i64 0] 23) := ⟨_, rfl⟩
  rw [← hw2] at hbx
  have c1 := hbx.c1
  have c2 := hbx.c2
  have f1 := hbx.f1
  have f2 := hbx.f2
  refine calls_of_marks Try.func10 rfl ?_
  simp only [Try.ntmps10, List.size_toArray, List.length_cons, List.length_nil, Nat.reduceAdd, Nat.reduceSub, Array.replicate_succ, Array.replicate_zero, List.push_toArray, List.append_toArray, List.nil_append, List.cons_append]
  repeat
    fail_if_success rw [← hw2]
    go_step
  rw [← hw2]
  clear hw2
  have HBX := Lib.hid hbx
  have hz2 := hbx.sz
  clear hbx
  by_cases hs0 : s = 0
  · have q1 : ((s : Int) == 0) = true := by simp; omega
    have HS0 := Lib.hid hs0
    clear hs0
    go_wp2_with fail
    exact marks_end rfl (.tuple #[.int .u32 0, .int .i64 2]) (by simp [results, Try.f10, go_sem, c1, c2]) ⟨0, 2, rfl, .inl ⟨HS0.out, rfl, rfl⟩, (HBX.out.b.setCell (p := ⟨w.heap.size, 0, none⟩) (Nat.le_refl _) _).setCell (p := ⟨w.heap.size + 1, 0, none⟩) (Nat.le_succ _) _⟩
  have q1 : ((s : Int) == 0) = false := by simp; omega
  obtain ⟨K, hK⟩ : ∃ K, nxK a s = K := ⟨_, rfl⟩
  obtain ⟨hk1, hk2⟩ := nxK_le (a := a) (s := s) (by omega) ha hs
  rw [hK] at hk1 hk2
  obtain ⟨q, hq⟩ : ∃ q, (a - 1 + s - 1) / s = q := ⟨_, rfl⟩
  have hkq : max 1 q = K := by rw [← hq]; exact hK
  obtain ⟨a1, ha1⟩ : ∃ a1, max a 1 = a1 := ⟨_, rfl⟩
  have ha12 : 1 ≤ a1 := by rw [← ha1]; exact Nat.le_max_right _ _
  have ha13 : a1 ≤ 4294967295 := by rw [← ha1]; omega
  have hmx : (if (a : Int) < 1 then (1 : Int) else (a : Int)) = (a1 : Int) := by rw [← ha1]; split <;> omega
  have hqi : ((a1 : Int) - 1 + (s : Int) - 1) / (s : Int) = (q : Int) := by rw [← hq, Int.natCast_ediv]; congr 1; omega
  have hqt : ((a1 : Int) - 1 + (s : Int) - 1).tdiv (s : Int) = (q : Int) := by rw [Int.tdiv_eq_ediv_of_nonneg (by omega), hqi]
  have hq2 : q ≤ 8589934592 := by rw [← hq]; have := Nat.div_le_self (a - 1 + s - 1) s; omega
  have hmk : (if 1 < (q : Int) then (q : Int) else 1) = (K : Int) := by rw [← hkq]; split <;> omega
  obtain ⟨n1, hn1⟩ : ∃ n1, K * s = n1 := ⟨_, rfl⟩
  have hks : (K : Int) * (s : Int) = (n1 : Int) := by rw [← hn1]; simp
  rw [hn1] at hk2
  have HN1 := Lib.hid hn1
  clear hn1
  have HK := Lib.hid hK
  clear hq hkq ha1 hK
  have HS0 := Lib.hid hs0
  clear hs0
  have hs0 : 0 < s := by have := HS0.out; omega
  go_wp2_with fail
  (with_reducible refine (up_any _ _ w2).mono ?_)
  rintro e w4 ⟨rfl, hw4⟩
  have k1 : w4.cell? ⟨w2.heap.size, 0, none⟩ = some (.int .u64 ((n1 : Int) + 1)) := by rw [hw4]; exact box_alloc _ (box_new w2 _ _).1
  have k2 : Boxed w4 (w2.heap.size + 1) 35 (.int .u64 (s : Int)) := by
    rw [hw4]
    have := Boxed.new (w2.alloc (.cells #[.int .u64 ((n1 : Int) + 1)] 35)) 35 (.int .u64 (s : Int))
    rwa [World.size_alloc] at this
  have hz4 : w4.heap.size = w2.heap.size + 2 := by rw [hw4, World.size_alloc, World.size_alloc]
  have hb4 : Below w2.heap.size w2 w4 := by rw [hw4]; exact ((Below.refl _ w2).alloc (Nat.le_refl _) _).alloc (by rw [World.size_alloc]; omega) _
  have HB4 := Lib.hid (HBX.out.next hb4)
  have HZ4 := Lib.hid hz4
  clear hw4 c1 c2 f1 f2 hz4
  go_wp2_with fail
  refine wp_rangeFunc_own (gf := 32) (lb := #[.pointer (some ⟨w2.heap.size, 0, none⟩), .pointer (some ⟨w2.heap.size + 1, 0, none⟩)]) rfl (enters_of Try.func32 (by kernel_rfl) rfl)
    (up_stops (Kp := Below w4.heap.size) Fence.wide 8 trivial rfl (by omega) (n1 + 1) s w2.heap.size (w2.heap.size + 1) w4 (fun _ _ h k => boxed_below k h (by rw [HZ4.out]; omega)) (by rw [HZ4.out]; omega) (by rw [HZ4.out]; omega) (by omega) (by omega) hs k1 k2) belowK_t (belowK_b (Nat.le_refl _)) (Below.refl _ _) (fun _ => rfl)
    (fun pre W => (CanF (upF s (n1 + 1)) pre → ∀ i, i < pre.length → ¬ Mr.Pr (upF s (n1 + 1) i)) ∧ Bx2 w 0 0 W ∧ w4.heap.size ≤ W.heap.size)
    (fun c xs W => c = .ret ∧ ∃ v : Nat, Bx2 w v 0 W ∧ (CanF (upF s (n1 + 1)) xs → FindR (upF s (n1 + 1)) (fun j => upF s (n1 + 1) j ≤ 2147483647) v 0))
    (fun t A B row hs hg hr => ⟨hs.1, hs.2.1.grown hg fun r e => ⟨by have := (hr r e).1; have := HZ4.out; omega, (hr r e).2⟩, Nat.le_trans hs.2.2 hg.size⟩)
    (fun c t A B row hs hg hr => ⟨hs.1, by
      obtain ⟨v, h1, h2⟩ := hs.2
      exact ⟨v, h1.grown hg fun r e => ⟨by have := (hr r e).1; have := HZ4.out; omega, (hr r e).2⟩, h2⟩⟩)
    ⟨fun _ i hi => absurd hi (Nat.not_lt_zero i), HB4.out, Nat.le_refl _⟩ ?ab ?done ?stop
  case ab =>
    apply Exists.intro
    refine ⟨?_, ?_⟩
    · intro l q W K hK
      simp only [encW]
      gi_wp2
      exact hK
    · rintro lr pre ⟨d, hd⟩ W ⟨hp, hbx, hsz⟩ hlen
      have HPP := Lib.hid hp
      have HBXX := Lib.hid hbx
      have HPRI := Lib.hid (prime_any d W (by omega))
      clear hp hbx k1 k2
      simp only
      obtain ⟨b, hb⟩ : ∃ b, prB d = b := ⟨_, rfl⟩
      rw [hb] at HPRI
      cases b
      · have hnp : ¬ Mr.Pr d := fun h => by rw [prB_yes h] at hb; cases hb
        have HNP := Lib.hid hnp
        clear hb hnp
        gi_wp2_with fail
        refine ⟨trivial, (CallsIn.inRound lr (callsIn_wide.2 HPRI.out)).mono ?_⟩
        rintro e w5 ⟨rfl, hb5⟩
        gi_wp2
        refine ⟨keeps_below hb5, hb5.mono hsz, fun hcan i hi => ?_, HBXX.out.next hb5, Nat.le_trans hsz hb5.size⟩
        obtain ⟨h1, h2⟩ := hcan.init
        rw [List.length_append, List.length_singleton] at hi
        rcases Nat.lt_or_ge i pre.length with h3 | h3
        · exact HPP.out h1 i h3
        · rw [show i = pre.length by omega, ← h2]
          exact HNP.out
      · have hpr := prB_true.1 hb
        have HNP := Lib.hid hpr
        clear hb hpr
        gi_wp2_with fail
        refine ⟨trivial, (CallsIn.inRound lr (callsIn_wide.2 HPRI.out)).mono ?_⟩
        rintro e w5 ⟨rfl, hb5⟩
        have hbx5 := HBXX.out.next hb5
        have c1 := hbx5.c1
        have c2 := hbx5.c2
        have f1 := hbx5.f1
        have f2 := hbx5.f2
        have HBX5 := Lib.hid hbx5
        clear hbx5
        gi_wp2
        refine ⟨((keeps_below hb5).trans (KeepsOthers.setCell _ _ _)).trans (KeepsOthers.setCell _ _ _), rfl, d, HBX5.out.put, fun hcan => ?_⟩
        obtain ⟨h1, h2⟩ := hcan.init
        exact .inl ⟨pre.length, by show upF s (n1 + 1) pre.length ≤ 2147483647; rw [← h2]; exact hd, by rw [← h2]; exact HNP.out, HPP.out h1, h2, rfl⟩
  case done =>
    rintro D ys W hD ⟨hcan, hlen⟩ ⟨hp, hbx, hsz⟩ hK
    have hnone : ∀ i, upF s (n1 + 1) i ≤ 2147483647 → ¬ Mr.Pr (upF s (n1 + 1) i) := fun i hi => hp hcan i (Nat.lt_of_not_le fun h => by
      have : upF s (n1 + 1) ys.length ≤ upF s (n1 + 1) i := Nat.add_le_add_left (Nat.mul_le_mul_right s h) _
      omega)
    have c1 := hbx.c1
    have c2 := hbx.c2
    have f1 := hbx.f1
    have f2 := hbx.f2
    have HBX5 := Lib.hid hbx
    have HNO := Lib.hid hnone
    have HKD := Lib.hid hK
    clear hp hcan hlen hbx hnone k1 k2 hK
    go_wp2_with fail
    have hK2 := (((KeepsOthers.setCell W ⟨w.heap.size, 0, none⟩ (.int .u32 0)).trans (KeepsOthers.setCell _ ⟨w.heap.size + 1, 0, none⟩ (.int .i64 4))).same D _ HKD.out rfl)
    have hbx6 := HBX5.out.put (v' := 0) (E' := 4)
    have d1 := box_shut hbx6.c1 hK2
    have d2 := box_shut hbx6.c2 hK2
    exact marks_end1 rfl hK2 (.tuple #[.int .u32 0, .int .i64 4]) (by simp [results, Try.f10, go_sem, d1, d2]) ⟨0, 4, rfl, .inr ⟨HS0.out, by rw [HK.out, HN1.out]; exact .inr ⟨HNO.out, rfl, rfl⟩⟩, below_shut hbx6.b (by have := HZ4.out; omega) hK2⟩
  case stop =>
    rintro D c pre W hD hcan ⟨rfl, v, hbx, hf⟩ hK
    have d1 := box_shut hbx.c1 hK
    have d2 := box_shut hbx.c2 hK
    have hff := hf hcan
    have HFF := Lib.hid hff
    clear hf hff
    go_wp2
    exact marks_end1 rfl hK (.tuple #[.int .u32 v, .int .i64 0]) (by simp [results, Try.f10, go_sem, d1, d2]) ⟨v, 0, rfl, .inr ⟨HS0.out, by rw [HK.out, HN1.out]; exact HFF.out⟩, below_shut hbx.b (by have := HZ4.out; omega) hK⟩
end Go.Proofs.Ythepdpfiahcfmaa
