/- The contract of poly.Interpolate. -/
import Derived.Test.YtmidpholmgmdpaaPairs
import Derived.Test.YtmidpholmgmdpaaProduct
import Derived.Test.YtmidpholmgmdpaaNewton
namespace Go.Proofs.Ytmidpholmgmdpaa
open Go.RowKit Go.Shelf Go.Sort
set_option linter.unusedVariables false
attribute [local go_sem] Oper.semAt_some

def IpBad (m n ny : Nat) : Prop := m < 2 ∨ 2147483647 < m ∨ n ≠ ny
def IpVal (m n : Nat) (x y : Nat → Nat) : Prop := ∃ j, j < n ∧ (m ≤ x j ∨ m ≤ y j)
/-- what Interpolate answers: the error, the result's length and its elements -/
def IpR (m n : Nat) (x : Nat → Nat) (ny : Nat) (y : Nat → Nat) (E k : Nat) (f : Nat → Nat) : Prop :=
  (IpBad m n ny ∧ E = 2 ∧ k = 0) ∨ (¬ IpBad m n ny ∧ 256 < n ∧ E = 3 ∧ k = 0) ∨ (¬ IpBad m n ny ∧ n ≤ 256 ∧ IpVal m n x y ∧ E = 2 ∧ k = 0) ∨
  (¬ IpBad m n ny ∧ n ≤ 256 ∧ ¬ IpVal m n x y ∧ ¬ Apart m n x ∧ E = 7 ∧ k = 0) ∨ (¬ IpBad m n ny ∧ n ≤ 256 ∧ ¬ IpVal m n x y ∧ Apart m n x ∧ E = 0 ∧ Thr m n x y k f)
def RetIp (w : World) (m n : Nat) (x : Nat → Nat) (ny : Nat) (y : Nat → Nat) (e : Ending) (w' : World) : Prop :=
  ∃ A c E k f, e = .returned (.tuple #[.slice A k c, .int .i64 ((E : Nat) : Int)]) ∧ k ≤ c ∧ Sq .u32 w' w.heap.size w'.heap.size A k f ∧ IpR m n x ny y E k f ∧ Below w.heap.size w w'

theorem ipR_fail {w w' : World} {m n ny E : Nat} {x y : Nat → Nat} (h : IpR m n x ny y E 0 (fun _ => 0)) (hb : Below w.heap.size w w') : RetIp w m n x ny y (.returned (.tuple #[.slice none 0 0, .int .i64 ((E : Nat) : Int)])) w' :=
  ⟨none, 0, E, 0, fun _ => 0, rfl, Nat.le_refl _, Sq.nil _ _ _ _ _, h, hb⟩

theorem frozen_below {B : Nat} {w w' : World} (hb : Below B w w') {b o : Nat} (h : b < B) : w'.frozen? ⟨b, o, none⟩ = w.frozen? ⟨b, o, none⟩ := by
  simp [World.frozen?, hb.block b h]

/-- the four boxes of a run of Interpolate, in whatever world behind -/
structure Boxes (w : World) (m n cx : Nat) (X : Option Addr) (W : World) : Prop where
  m : W.cell? ⟨w.heap.size, 0, none⟩ = some (.int .u32 (m : Int))
  x : W.cell? ⟨w.heap.size + 1, 0, none⟩ = some (.slice X n cx)
  r : W.cell? ⟨w.heap.size + 1 + 1, 0, none⟩ = some (.slice none 0 0)
  e : W.cell? ⟨w.heap.size + 1 + 1 + 1, 0, none⟩ = some (.int .i64 0)
  fr : W.frozen? ⟨w.heap.size + 1 + 1, 0, none⟩ = false
  fe : W.frozen? ⟨w.heap.size + 1 + 1 + 1, 0, none⟩ = false
  z : w.heap.size + 4 ≤ W.heap.size
  b : Below w.heap.size w W
theorem Boxes.next {w W W' : World} {m n cx : Nat} {X : Option Addr} (h : Boxes w m n cx X W) (hb : Below W.heap.size W W') : Boxes w m n cx X W' := by
  have hz := h.z
  exact { m := (hb.cell (p := ⟨w.heap.size, 0, none⟩) (by show w.heap.size < _; omega)).trans h.m, x := (hb.cell (p := ⟨w.heap.size + 1, 0, none⟩) (by show w.heap.size + 1 < _; omega)).trans h.x, r := (hb.cell (p := ⟨w.heap.size + 1 + 1, 0, none⟩) (by show w.heap.size + 1 + 1 < _; omega)).trans h.r,
          e := (hb.cell (p := ⟨w.heap.size + 1 + 1 + 1, 0, none⟩) (by show w.heap.size + 1 + 1 + 1 < _; omega)).trans h.e, fr := (frozen_below hb (by omega)).trans h.fr, fe := (frozen_below hb (by omega)).trans h.fe, z := by have := hb.size; omega, b := h.b.trans (hb.mono (by omega)) }
theorem Boxes.fail {w W : World} {m n cx : Nat} {X : Option Addr} (h : Boxes w m n cx X W) (v : Value) : Below w.heap.size w ((W.setCell ⟨w.heap.size + 1 + 1, 0, none⟩ (.slice none 0 0)).setCell ⟨w.heap.size + 1 + 1 + 1, 0, none⟩ v) :=
  (h.b.setCell (p := ⟨w.heap.size + 1 + 1, 0, none⟩) (by show w.heap.size ≤ w.heap.size + 1 + 1; omega) _).setCell (p := ⟨w.heap.size + 1 + 1 + 1, 0, none⟩) (by show w.heap.size ≤ w.heap.size + 1 + 1 + 1; omega) _

theorem Sq.setLow {k : IntKind} {w : World} {lo hi n : Nat} {A : Option Addr} {f : Nat → Nat} {p : Addr} {v : Value} (h : Sq k w lo hi A n f) (hp : p.block < lo) : Sq k (w.setCell p v) lo hi A n f :=
  ⟨h.1, fun hn => by
    obtain ⟨b, off, e, h1, h2, h3⟩ := h.2 hn
    have hne : b ≠ p.block := by omega
    exact ⟨b, off, e, h1, h2, fun j hj => (World.cell?_setCell_other w p _ v (fun e2 => hne (by rw [e2]))).trans (h3 j hj)⟩⟩

set_option maxRecDepth 100000 in
set_option maxHeartbeats 2000000 in
theorem interp_any (m n ny cx cy : Nat) (X Y : Option Addr) (x y : Nat → Nat) (w : World) (hx : Sq .u32 w 0 w.heap.size X n x) (hy : Sq .u32 w 0 w.heap.size Y ny y) (hn : n ≤ 9223372036854775807) (hny : ny ≤ 9223372036854775807) (hm : m ≤ 4294967295) :
    Calls Try.prog 32 #[.int .u32 m, .slice X n cx, .slice Y ny cy] w (RetIp w m n x ny y) := by
  obtain ⟨w4, hw4⟩ : ∃ w4, w4 = (((w.alloc (.cells #[.int .u32 (m : Int)] 22)).alloc (.cells #[.slice X n cx] 51)).alloc (.cells #[.slice none 0 0] 51)).alloc (.cells #[.int .i64 0] 25) := ⟨_, rfl⟩
  obtain ⟨hm4, hx4, hr4, he4, fr4, fe4, hz4⟩ := boxes4 w _ _ _ _ _ _ _ _ w4 hw4
  have hB4 : Below w.heap.size w w4 := by
    rw [hw4]
    exact ((((Below.refl _ w).alloc (Nat.le_refl _) _).alloc (by simp) _).alloc (by simp; omega) _).alloc (by simp; omega) _
  have HX := Lib.hid (hx.below hB4 (Nat.le_refl _))
  have HY := Lib.hid (hy.below hB4 (Nat.le_refl _))
  clear hx hy
  refine calls_of_marks Try.func32 rfl ?_
  simp only [Try.ntmps32, List.size_toArray, List.length_cons, List.length_nil, Nat.reduceAdd, Nat.reduceSub, Array.replicate_succ, Array.replicate_zero, List.push_toArray, List.append_toArray, List.nil_append, List.cons_append]
  have hbx4 : Boxes w m n cx X w4 := ⟨hm4, hx4, hr4, he4, fr4, fe4, by omega, hB4⟩
  have hE := hbx4.fail
  repeat
    fail_if_success rw [← hw4]
    go_step
  rw [← hw4]
  clear hw4
  by_cases h1 : m < 2
  · have d1 : decide ((m : Int) < 2) = true := decide_eq_true (by omega)
    go_wp2_with fail
    refine marks_end rfl (.tuple #[.slice none 0 0, .int .i64 2]) (by simp [results, Try.f32, go_sem, hr4, he4]) (ipR_fail (.inl ⟨.inl h1, rfl, rfl⟩) (hE _))
  have d1 : decide ((m : Int) < 2) = false := decide_eq_false (by omega)
  by_cases h2 : 2147483647 < m
  · have d2 : decide ((m : Int) > 2147483647) = true := decide_eq_true (by omega)
    go_wp2_with fail
    exact marks_end rfl (.tuple #[.slice none 0 0, .int .i64 2]) (by simp [results, Try.f32, go_sem, hr4, he4]) (ipR_fail (.inl ⟨.inr (.inl h2), rfl, rfl⟩) (hE _))
  have d2 : decide ((m : Int) > 2147483647) = false := decide_eq_false (by omega)
  by_cases h3 : n ≠ ny
  · have d3 : ((n : Int) != (ny : Int)) = true := by simp; omega
    go_wp2_with fail
    exact marks_end rfl (.tuple #[.slice none 0 0, .int .i64 2]) (by simp [results, Try.f32, go_sem, hr4, he4]) (ipR_fail (.inl ⟨.inr (.inr h3), rfl, rfl⟩) (hE _))
  obtain rfl : n = ny := by omega
  have d3 : ((n : Int) != (n : Int)) = false := by simp
  have hbad : ¬ IpBad m n n := by unfold IpBad; omega
  by_cases h4 : 256 < n
  · have d4 : decide ((n : Int) > 256) = true := decide_eq_true (by omega)
    go_wp2_with fail
    exact marks_end rfl (.tuple #[.slice none 0 0, .int .i64 3]) (by simp [results, Try.f32, go_sem, hr4, he4]) (ipR_fail (.inr (.inl ⟨hbad, h4, rfl, rfl⟩)) (hE _))
  have d4 : decide ((n : Int) > 256) = false := decide_eq_false (by omega)
  go_wp2_with fail
  have HBX := Lib.hid hbx4
  clear hm4 hx4 hr4 he4 fr4 fe4 hE hB4 hbx4
  go_loopw [38] (fun i wr => ∃ k : Nat, k ≤ n ∧ i = .int .i64 k ∧ (∀ j, j < k → x j < m ∧ y j < m) ∧ Below w4.heap.size w4 wr) (fun i _ => n - (intOf i).toNat)
  case atStart => exact ⟨0, Nat.zero_le _, rfl, fun j hj => absurd hj (Nat.not_lt_zero j), Below.refl _ _⟩
  case round =>
    obtain ⟨k, hk, rfl, hlt, hbel⟩ := hrel
    have HL := Lib.hid hlt
    clear hlt
    have hbx := HBX.out.next hbel
    have c1 := hbx.m
    have c2 := hbx.x
    by_cases hkn : k < n
    · obtain ⟨g, off, rfl, _, hg1, hcell⟩ := HX.out.2 (by omega)
      obtain ⟨g2, off2, rfl, _, hg2, hcell2⟩ := HY.out.2 (by omega)
      have hc1 := (hbel.cell (p := ⟨g, off + k, none⟩) (by show g < _; omega)).trans (hcell k hkn)
      have hc2 := (hbel.cell (p := ⟨g2, off2 + k, none⟩) (by show g2 < _; omega)).trans (hcell2 k hkn)
      by_cases hv : x k < m ∧ y k < m
      · have q1 : decide (((x k : Nat) : Int) ≥ (m : Int)) = false := decide_eq_false (by omega)
        have q2 : decide (((y k : Nat) : Int) ≥ (m : Int)) = false := decide_eq_false (by omega)
        have q3 : ¬ m ≤ x k := by omega
        have q4 : ¬ m ≤ y k := by omega
        clear hcell hcell2
        go_wp2
        go_quiet (fail)
        go_wp2
        go_roundw
        case rel =>
          refine ⟨k + 1, by omega, by go_num, fun j hj => ?_, below_drewN hbel _⟩
          rcases Nat.lt_or_ge j k with h | h
          · exact HL.out j h
          · rw [show j = k from by omega]; exact hv
        case measure => simp [intOf]; omega
      · have q : m ≤ x k ∨ ¬ m ≤ x k ∧ m ≤ y k := by omega
        have hval : IpVal m n x y := ⟨k, hkn, by omega⟩
        clear hcell hcell2
        rcases q with q1 | ⟨q1, q2⟩
        all_goals
          go_wp2
          go_quiet (fail)
          have hb5 := below_drewN hbel nq
          generalize World.drewN wr nq = w5 at hb5 ⊢
          have hbx5 := HBX.out.next hb5
          have c6 := hbx5.r
          have c7 := hbx5.e
          have c8 := hbx5.fr
          have c9 := hbx5.fe
          go_wp2
          exact marks_end rfl (.tuple #[.slice none 0 0, .int .i64 2]) (by simp [results, Try.f32, go_sem, c6, c7]) (ipR_fail (.inr (.inr (.inl ⟨hbad, by omega, hval, rfl, rfl⟩))) (hbx5.fail _))
    · obtain rfl : n = k := by omega
      go_wp2_with fail
      refine (pairs_any _ _).mono ?_
      rintro e w6 ⟨rfl, hw6⟩
      have hb6 : Below w4.heap.size w4 w6 := by rw [hw6]; exact hbel.alloc hbel.size _
      have hc6 : w6.cell? ⟨wr.heap.size, 0, none⟩ = some (.int .i64 (n : Int)) := by rw [hw6]; exact (box_new _ _ _).1
      have hz6 : wr.heap.size < w6.heap.size := by rw [hw6, World.size_alloc]; omega
      clear hw6
      go_wp2_with fail
      have hbx6 := HBX.out.next hb6
      have hs6 := hb6.size
      refine wp_rangeFunc_own (gf := 65) (lb := #[.pointer (some ⟨wr.heap.size, 0, none⟩)]) rfl (enters_of Try.func65 (by kernel_rfl) rfl) (pairs_stops (Kp := Below w6.heap.size) Fence.wide 8 trivial rfl (by omega) n wr.heap.size w6 hz6 hn hc6) belowK_t (belowK_b (Nat.le_refl _)) (Below.refl _ _) (fun _ => rfl)
        (fun pre W => (∀ q ∈ pre, Nat.gcd m (dif m (x q.1.1) (x q.1.2)) = 1) ∧ Below w6.heap.size w6 W)
        (fun c _ W => c = .ret ∧ ¬ Apart m n x ∧ W.cell? ⟨w.heap.size + 1 + 1, 0, none⟩ = some (.slice none 0 0) ∧ W.cell? ⟨w.heap.size + 1 + 1 + 1, 0, none⟩ = some (.int .i64 7) ∧ Below w.heap.size w W)
        (fun s A B row hs hg hr => ⟨hs.1, hs.2.grown hg hs.2.size (fun k e => (hr k e).1)⟩)
        (fun c s A B row hs hg hr => ⟨hs.1, hs.2.1, cell_kept hs.2.2.1 hg (fun r e => (hr r e).2), cell_kept hs.2.2.2.1 hg (fun r e => (hr r e).2), hs.2.2.2.2.grown hg hs.2.2.2.2.size (fun k e => by have := (hr k e).1; omega)⟩)
        ⟨fun q h => absurd h (by simp), Below.refl _ _⟩ ?ab ?done ?stop
      case ab =>
        apply Exists.intro
        refine ⟨?_, ?_⟩
        · intro l q W K hK
          simp only [encP]
          gi_wp2
          exact hK
        · rintro l pre q W ⟨hpre, hbW⟩ _
          have hs := hbW.size
          obtain ⟨⟨i, k⟩, hki, hin⟩ := q
          have hbx7 := hbx6.next hbW
          have c3 := hbx7.m
          have c4 := hbx7.x
          obtain ⟨g, off, rfl, _, hg1, hcell⟩ := HX.out.2 (by omega)
          have hbb := (hb6.trans (hbW.mono hs6))
          have hc1 := (hbb.cell (p := ⟨g, off + i, none⟩) (by show g < _; omega)).trans (hcell i hin)
          have hc2 := (hbb.cell (p := ⟨g, off + k, none⟩) (by show g < _; omega)).trans (hcell k (by omega))
          have hai := (HL.out i hin).1
          have hbk := (HL.out k (by omega)).1
          have hdif : dif m (x i) (x k) = (x i + m - x k) % m := rfl
          obtain ⟨d, hd⟩ : ∃ d, dif m (x i) (x k) = d := ⟨_, rfl⟩
          have hdm : d < m := by rw [← hd]; exact Nat.mod_lt _ (by omega)
          have hAp : Nat.gcd m d ≠ 1 → ¬ Apart m n x := fun h hap => h (by rw [← hd]; exact hap i k hki hin)
          have hP : Nat.gcd m d = 1 → ∀ q ∈ pre ++ [(⟨(i, k), hki, hin⟩ : Pair n)], Nat.gcd m (dif m (x q.1.1) (x q.1.2)) = 1 := fun h q hq => by
            rcases List.mem_append.1 hq with h1 | h1
            · exact hpre q h1
            · rw [List.mem_singleton.1 h1]
              show Nat.gcd m (dif m (x i) (x k)) = 1
              rw [hd, h]
          rw [hd] at hdif
          have HP := Lib.hid hP
          have HAp := Lib.hid hAp
          clear hP hAp hd hcell hpre
          obtain ⟨a, ha⟩ : ∃ a, x i = a := ⟨_, rfl⟩
          obtain ⟨b, hb⟩ : ∃ b, x k = b := ⟨_, rfl⟩
          rw [ha] at hai hdif hc1
          rw [hb] at hbk hdif hc2
          have hdi : ((a : Int) + (m : Int) - (b : Int)) % (m : Int) = (d : Int) := by rw [hdif, Int.natCast_emod, Int.ofNat_sub (by omega)]; simp
          have hs7 := hbx7.z
          have hkn2 : k < n := by omega
          have hF := fits_one.2 ⟨hdm, (by omega : 2 ≤ m), (by omega : m ≤ 2147483647)⟩
          have hmw : Nat.gcd m d = 1 ∨ Nat.gcd m d ≠ 1 := Decidable.em _
          obtain ⟨iv, er, hiv, her⟩ : ∃ iv er, invE d m = (iv, er) ∧ (Nat.gcd m d = 1 ∧ er = 0 ∨ Nat.gcd m d ≠ 1 ∧ er = 4) := by
            rcases hmw with hg | hg
            · exact ⟨_, _, invE_ok hF hg, .inl ⟨hg, rfl⟩⟩
            · exact ⟨_, _, invE_none hF hg, .inr ⟨hg, rfl⟩⟩
          have hI : ∀ d' os, Calls Try.prog 52 #[.int .u32 d, .int .u32 m] (grow (redrawn W d') os) fun e w'' => e = .returned (.tuple #[.int .u32 (iv : Int), .int .i64 (er : Int)]) ∧ ∃ p : Regrown, w'' = grow (redrawn W p.d) p.os := fun d' os => Calls.regrown_of (by
            have h := inverse_any d m (grow (redrawn W d') os)
            unfold InvErr at h
            rw [hiv] at h
            exact h.mono fun e w' h => ⟨h.2, h.1⟩)
          have HI := Lib.hid hI
          have k1 := cell_regrown c3
          have k2 := cell_regrown c4
          have k3 := cell_regrown hc1
          have k4 := cell_regrown hc2
          have hw1 : IntKind.u32.wrap ((a : Int) + (m : Int)) = (a : Int) + (m : Int) := IntWalk.u32_in _ (by omega)
          have hw2 : IntKind.u32.wrap ((a : Int) + (m : Int) - (b : Int)) = (a : Int) + (m : Int) - (b : Int) := IntWalk.u32_in _ (by omega)
          have hm0 : ¬ m = 0 := by omega
          have hdt : ((a : Int) + (m : Int) - (b : Int)).tmod (m : Int) = (d : Int) := by rw [Int.tmod_eq_emod_of_nonneg (by omega), hdi]
          have HW := Lib.hid hbW
          have HB := Lib.hid hbx7
          have HER := Lib.hid her
          clear ha hb hdif hbx7 HBX HX HY HL hbel hb6 hc6 hbx6 hbb hbW hbx c1 c2 hI hiv hF hmw her c3 c4 hc1 hc2
          simp only
          gi_wp2
          refine region_round (by kernel_rfl) (by kernel_rfl) (by kernel_rfl) ?_
          repeat
            refine wpQuiet_step (fun K hK => ?_)
            go_simp
            try go_bits
            first
              | (refine hK _ ?_; clear hK K)
              | (apply Exists.intro
                 refine ⟨fun _ => ?_, hK _ ?_⟩
                 exact HI.out _ _
                 clear hK K)
          refine wpQuiet_nil ?_
          rintro _ ⟨⟨d1, os1⟩, rfl⟩
          have hb9 := below_regrown W d1 os1
          generalize grow (redrawn W d1) os1 = w9 at hb9 ⊢
          have hbx9 := HB.out.next hb9
          have c6 := hbx9.r
          have c7 := hbx9.e
          have c8 := hbx9.fr
          have c9 := hbx9.fe
          rcases HER.out with ⟨hg, he⟩ | ⟨hg, he⟩
          · subst he
            gi_wp2
            exact ⟨keeps_below hb9, hb9.mono hs, fun i' k' h' hm' => HP.out hg ⟨(i', k'), h'⟩ hm', HW.out.trans (hb9.mono hs)⟩
          · subst he
            gi_wp2
            exact ⟨((keeps_below hb9).trans (KeepsOthers.setCell _ _ _)).trans (KeepsOthers.setCell _ _ _), rfl, HAp.out hg, by simp [go_sem, c6], by simp [go_sem, c7], (hbx9.b.setCell (p := ⟨w.heap.size + 1 + 1, 0, none⟩) (by show w.heap.size ≤ w.heap.size + 1 + 1; omega) _).setCell (p := ⟨w.heap.size + 1 + 1 + 1, 0, none⟩) (by show w.heap.size ≤ w.heap.size + 1 + 1 + 1; omega) _⟩
      case done =>
        rintro D ys W hD hcame ⟨hpre, hbW⟩ hK
        have hap : Apart m n x := fun i k hki hin => hpre ⟨(i, k), hki, hin⟩ (hcame.1 _ (.inl hin))
        have hs := hbW.size
        have HAP := Lib.hid hap
        have HB := Lib.hid (hbx6.next hbW)
        have c4 := box_alloc (.cells #[.int .u32 1] 22) HB.out.x
        clear hap hcame hpre hbx6 hbx c1 c2 hc6
        go_wp2_with fail
        obtain ⟨w8, hw8⟩ : ∃ w8, w8 = W.alloc (.cells #[.int .u32 1] 22) := ⟨_, rfl⟩
        have hb8 : Below W.heap.size W w8 := by rw [hw8]; exact (Below.refl _ _).alloc (Nat.le_refl _) _
        have hs8 : Sq .u32 w8 W.heap.size w8.heap.size (some ⟨W.heap.size, 0, none⟩) 1 (oneF 1) := by rw [hw8]; exact sq_one rfl (Nat.le_refl _) (by rw [World.size_alloc]; omega)
        rw [← hw8] at c4 ⊢
        clear hw8
        go_loopw [13, 14, 84] (fun O B i wr2 => ∃ (k no co nb cb : Nat) (fo fb : Nat → Nat) (Ao Ab : Option Addr), k ≤ n ∧ i = .int .i64 (k : Int) ∧ O = .slice Ao no co ∧ B = .slice Ab nb cb ∧ no ≤ co ∧ Newt m n k x y no fo nb fb ∧
          Sq .u32 wr2 W.heap.size wr2.heap.size Ao no fo ∧ Sq .u32 wr2 W.heap.size wr2.heap.size Ab nb fb ∧ Below W.heap.size W wr2) (fun _ _ i _ => n - (intOf i).toNat)
        case atStart =>
          exact ⟨0, 0, 0, 1, 1, fun _ => 0, oneF 1, none, _, Nat.zero_le _, rfl, rfl, rfl, Nat.le_refl _, Newt.start (by omega), Sq.nil _ _ _ _ _, hs8, hb8⟩
        case round =>
          clear c4 hs8 hb8
          obtain ⟨k, no, co, nb, cb, fo, fb, Ao, Ab, hk, rfl, rfl, rfl, hco, hnw, hso, hsb, hbel2⟩ := hrel
          have hbx8 := HB.out.next hbel2
          have hsz8 := hbel2.size
          by_cases hkn : k < n
          · obtain ⟨g, off, rfl, _, hg1, hcell⟩ := HX.out.2 (by omega)
            obtain ⟨g2, off2, rfl, _, hg2, hcell2⟩ := HY.out.2 (by omega)
            have hbw := (hb6.trans ((hbW.trans (hbel2.mono hs)).mono hs6))
            have hc1 := (hbw.cell (p := ⟨g, off + k, none⟩) (by show g < _; omega)).trans (hcell k hkn)
            have hc2 := (hbw.cell (p := ⟨g2, off2 + k, none⟩) (by show g2 < _; omega)).trans (hcell2 k hkn)
            obtain ⟨hxm, hym⟩ := HL.out k hkn
            have hno := hnw.lo
            have hnb := hnw.lb
            have hvu := hnw.vu k (Nat.le_refl _) hkn
            obtain ⟨vb, hvb⟩ : ∃ vb, valF m nb fb (x k) = vb := ⟨_, rfl⟩
            obtain ⟨vo, hvo⟩ : ∃ vo, valF m no fo (x k) = vo := ⟨_, rfl⟩
            have hvbm : vb < m := by rw [← hvb]; exact valF_lt (by omega) _ _ _
            have hvom : vo < m := by rw [← hvo]; exact valF_lt (by omega) _ _ _
            obtain ⟨inv, hinv⟩ : ∃ inv, invN vb m = inv := ⟨_, rfl⟩
            rw [hvb] at hvu
            have hsp := invN_spec (a := vb) (m := m) hvbm (by omega) hvu
            rw [hinv] at hsp
            have hstep := hnw.step (inv := inv) (c := (y k + m - vo) % m * inv % m) (by omega) (fun j hj => (HL.out j hj).1) (fun j hj => (HL.out j hj).2) HAP.out hkn (by rw [hvb]; exact hsp.2) (by rw [hvo])
            obtain ⟨c, hc⟩ : ∃ c, (y k + m - vo) % m * inv % m = c := ⟨_, rfl⟩
            rw [hc] at hstep
            have hcm : c < m := by rw [← hc]; exact Nat.mod_lt _ (by omega)
            obtain ⟨xk, hxk⟩ : ∃ xk, x k = xk := ⟨_, rfl⟩
            obtain ⟨yk, hyk⟩ : ∃ yk, y k = yk := ⟨_, rfl⟩
            rw [hxk] at hxm hc1 hvb hvo hstep
            rw [hyk] at hym hc2 hc
            obtain ⟨tt, htt⟩ : ∃ tt, (yk + m - vo) % m = tt := ⟨_, rfl⟩
            have httm : tt < m := by rw [← htt]; exact Nat.mod_lt _ (by omega)
            rw [htt] at hc
            have hti : ((yk : Int) + (m : Int) - (vo : Int)) % (m : Int) = (tt : Int) := by rw [← htt, Int.natCast_emod, Int.ofNat_sub (show vo ≤ yk + m by omega)]; simp
            have hci : (tt : Int) * (inv : Int) % (m : Int) = (c : Int) := by rw [← hc]; simp
            have hq1 := mul_lt_int httm hsp.1 (show m ≤ 2147483647 by omega)
            have hq2 : 0 ≤ (tt : Int) * (inv : Int) := Int.mul_nonneg (Int.natCast_nonneg _) (Int.natCast_nonneg _)
            have hVB : ∀ d os, Calls Try.prog 53 #[.int .u32 m, .slice Ab nb cb, .int .u32 xk] (grow (redrawn wr d) os) fun e w'' => e = .returned (.int .u32 (vb : Int)) ∧ ∃ p : Regrown, w'' = grow (redrawn wr p.d) p.os := fun d os => Calls.regrown_of (by
              have h := value_any m nb cb xk Ab fb (grow (redrawn wr d) os) _ _ (hsb.below (below_regrown wr d os) (Nat.le_refl _)) (by omega) (by omega) hxm hnw.rb.1 (by omega)
              rw [hvb] at h
              exact h.mono fun e w' h => ⟨h.1, by rw [← h.2]; exact Below.refl _ _⟩)
            have hVI : ∀ d os, Calls Try.prog 52 #[.int .u32 vb, .int .u32 m] (grow (redrawn wr d) os) fun e w'' => e = .returned (.tuple #[.int .u32 (inv : Int), .int .i64 0]) ∧ ∃ p : Regrown, w'' = grow (redrawn wr p.d) p.os := fun d os => Calls.regrown_of (by
              have h := inverse_any vb m (grow (redrawn wr d) os)
              unfold InvErr at h
              rw [invE_ok (fits_one.2 ⟨hvbm, by omega, by omega⟩) hvu, hinv] at h
              exact h.mono fun e w' h => ⟨h.2, h.1⟩)
            have k1 := cell_regrown hbx8.m
            have HVB := Lib.hid hVB
            have HVI := Lib.hid hVI
            have HS := Lib.hid (And.intro hso (And.intro hsb (And.intro hbel2 hstep)))
            have HNW := Lib.hid hnw
            have HVO := Lib.hid hvo
            have HBX8 := Lib.hid hbx8
            have HC2 := Lib.hid hc2
            have hinvm := hsp.1
            clear hVB hVI hcell hcell2 hbw hvb hvo hinv hsp hc htt hxk hyk hstep hso hsb hbel2 hbx8 hc2 hnw HX HY HL hb6 hbW hbel hvu
            go_wp2_with fail
            refine wp_region_quiet_below (by kernel_rfl) (by kernel_rfl) ?_
            repeat (quiet_step (first | exact HVB.out _ _ | exact HVI.out _ _))
            refine wpQuiet_nil ?_
            rintro _ ⟨⟨d1, os1⟩, rfl⟩
            have hb9 := below_regrown wr d1 os1
            generalize grow (redrawn wr d1) os1 = w9 at hb9 ⊢
            have hz9 := hb9.size
            have hV2 : ∀ d os, Calls Try.prog 53 #[.int .u32 m, .slice Ao no co, .int .u32 xk] (grow (redrawn w9 d) os) fun e w'' => e = .returned (.int .u32 (vo : Int)) ∧ ∃ p : Regrown, w'' = grow (redrawn w9 p.d) p.os := fun d os => Calls.regrown_of (by
              have h := value_any m no co xk Ao fo (grow (redrawn w9 d) os) _ _ ((HS.out.1.below hb9 (Nat.le_refl _)).below (below_regrown w9 d os) hz9) (by omega) (by omega) hxm HNW.out.ro.1 (by omega)
              rw [HVO.out] at h
              exact h.mono fun e w' h => ⟨h.1, by rw [← h.2]; exact Below.refl _ _⟩)
            have HV2 := Lib.hid hV2
            have k1 := cell_regrown (HBX8.out.next hb9).m
            have k2 := cell_regrown ((hb9.cell (p := ⟨g2, off2 + k, none⟩) (World.block_lt_of_cell? _ _ HC2.out)).trans HC2.out)
            have hwm : IntKind.u64.wrap (m : Int) = (m : Int) := IntWalk.u64_in _ (by omega)
            have hwp : IntKind.u64.wrap ((tt : Int) * (inv : Int)) = (tt : Int) * (inv : Int) := IntWalk.u64_in _ (by omega)
            have hwi : IntKind.u64.wrap (inv : Int) = (inv : Int) := IntWalk.u64_in _ (by omega)
            have hm0 : ¬ m = 0 := by omega
            clear hV2
            go_wp2_with fail
            refine wp_region_quiet_below (by kernel_rfl) (by kernel_rfl) ?_
            repeat
              refine wpQuiet_step (fun K hK => ?_)
              go_simp
              try go_bits
              first
                | (refine hK _ ?_; clear hK K)
                | (apply Exists.intro
                   refine ⟨fun _ => ?_, hK _ ?_⟩
                   exact HV2.out _ _
                   clear hK K)
            refine wpQuiet_nil ?_
            rintro _ ⟨⟨d2, os2⟩, rfl⟩
            have hb10' := below_regrown w9 d2 os2
            generalize grow (redrawn w9 d2) os2 = w10 at hb10' ⊢
            have hb10 := hb9.trans (hb10'.mono hz9)
            have hz10 := hb10.size
            clear k1 k2 HV2 hb10'
            have k1 := (HBX8.out.next hb10).m
            go_wp2_with fail
            refine (combine_any m c no nb co cb Ao Ab fo fb w10 W.heap.size wr.heap.size (HS.out.1.below hb10 (Nat.le_refl _)) (HS.out.2.1.below hb10 (Nat.le_refl _)) (by omega) (by omega) hcm HNW.out.ro.1 HNW.out.rb.1 (by omega) (by omega) hz10).mono ?_
            rintro e w11 ⟨A11, c11, rfl, hc11, hs11, hb11'⟩
            have hb11 := hb10.trans (hb11'.mono hz10)
            have hz11 := hb11'.size
            have HS11 := Lib.hid hs11
            obtain ⟨no', hno'⟩ : ∃ no', tl (combF m fo fb c) (max no nb) = no' := ⟨_, rfl⟩
            rw [hno'] at hc11 ⊢
            have HNO := Lib.hid hno'
            have k1 := (HBX8.out.next hb11).m
            clear hs11 hb11' hno'
            obtain ⟨lx, hlx⟩ : ∃ lx, (m - xk) % m = lx := ⟨_, rfl⟩
            have hlxm : lx < m := by rw [← hlx]; exact Nat.mod_lt _ (by omega)
            have hlxi : ((m : Int) - (xk : Int)) % (m : Int) = (lx : Int) := by rw [← hlx, Int.natCast_emod, Int.ofNat_sub (by omega)]
            have hlin : linF m xk = litF [lx, 1] := by unfold linF; rw [hlx]
            have HLIN := Lib.hid hlin
            have k11 : ∀ V : World, V = (w11.alloc (.cells #[.int .u32 (lx : Int), .int .u32 1] 22)).drew → Calls Try.prog 55 #[.int .u32 m, .slice Ab nb cb, .slice (some ⟨w11.heap.size, 0, none⟩) 2 2] V (fun e w' => ∃ A c, e = .returned (.slice A (tl (mulF m fb (linF m xk)) (nb + 2)) c) ∧ Sq .u32 w' W.heap.size w'.heap.size A (tl (mulF m fb (linF m xk)) (nb + 2)) (mulF m fb (linF m xk)) ∧ Below w11.heap.size w11 w') := fun V hV => by
              have e2 : Below w11.heap.size w11 V := by rw [hV]; exact ((Below.refl _ _).alloc (Nat.le_refl _) _).drew
              have e3 : Sq .u32 V 0 (w11.heap.size + 1) (some ⟨w11.heap.size, 0, none⟩) 2 (litF [lx, 1]) := by
                have h0 : Sq .u32 (w11.alloc (.cells #[.int .u32 (lx : Int), .int .u32 1] 22)) 0 (w11.heap.size + 1) (some ⟨w11.heap.size, 0, none⟩) 2 (litF [lx, 1]) := sq_list .u32 w11 22 0 _ [lx, 1] (Nat.zero_le _) (Nat.lt_succ_self _)
                rw [hV]
                exact h0.below (Below.refl (w11.heap.size + 1) _).drew (Nat.le_refl _)
              have e4 : V.heap.size = w11.heap.size + 1 := by rw [hV]; exact World.size_alloc _ _
              have r2 := rs_lin (m := m) (x := xk) (by omega)
              rw [HLIN.out] at r2 ⊢
              refine (product_any m nb 2 cb 2 Ab _ fb (litF [lx, 1]) V 0 (w11.heap.size + 1) (((HS.out.2.1.below hb11 (Nat.le_refl _)).below e2 (by omega)).wide (Nat.zero_le _) (by omega)) e3 (by omega) (by omega) HNW.out.rb.1 r2.1 (by omega) (by omega) (by omega)).mono fun e w' h => ?_
              obtain ⟨A, c, rfl, _, h2, h3⟩ := h
              exact ⟨A, c, rfl, h2.wide (by omega) (Nat.le_refl _), e2.trans (h3.mono (by omega))⟩
            obtain ⟨nb', hnb'⟩ : ∃ nb', tl (mulF m fb (linF m xk)) (nb + 2) = nb' := ⟨_, rfl⟩
            rw [hnb'] at k11
            have K11 := Lib.hid k11
            have HNB := Lib.hid hnb'
            have hlxt : (IntKind.u32.wrap ((m : Int) - (xk : Int))).tmod (m : Int) = (lx : Int) := by rw [IntWalk.u32_in _ (by omega), Int.tmod_eq_emod_of_nonneg (by omega), hlxi]
            have k1a : ∀ o, (w11.alloc o).cell? ⟨w.heap.size, 0, none⟩ = some (.int .u32 (m : Int)) := fun o => box_alloc o k1
            clear k11 hlin hlx hnb'
            go_wp2_with fail
            go_region_with (go_at_call 55; refine (K11.out _ rfl).mono ?_; rintro e w12 ⟨A12, c12, rfl, hs12, hb12⟩)
            all_goals
              go_wp2
              go_roundw
              case rel =>
                have hst := HS.out.2.2.2
                rw [HNO.out, HNB.out] at hst
                have hb12' := hb11.trans (hb12.mono (by omega))
                have hsq11 := HS11.out.below hb12 (Nat.le_refl _)
                rw [HNO.out] at hsq11
                exact ⟨k + 1, no', c11, nb', c12, combF m fo fb c, mulF m fb (linF m xk), A11, A12, hkn, by go_num, rfl, rfl, hc11, hst, hsq11.wide (by omega) hb12.size, hs12, HS.out.2.2.1.trans (hb12'.mono hsz8)⟩
              case measure => simp [intOf]; omega
          · obtain rfl : n = k := by omega
            have hthr := hnw.thr
            have hlo := hnw.lo
            have hto := hnw.to
            have HT := Lib.hid (And.intro hthr (And.intro hso hbel2))
            have c6 := hbx8.r
            have c7 := hbx8.e
            have c8 := hbx8.fr
            have c9 := hbx8.fe
            have htr := trim_any Ao no co fo wr _ _ hso hco (by omega)
            unfold TrimRet at htr
            rw [hto] at htr
            have HTR := Lib.hid htr
            clear hthr hso hsb hbel2 hnw htr
            go_wp2_with fail
            refine HTR.out.mono ?_
            rintro e w9 ⟨rfl, rfl⟩
            go_wp2
            obtain ⟨w20, hw20⟩ : ∃ w20, w20 = (wr.setCell ⟨w.heap.size + 1 + 1, 0, none⟩ (.slice Ao no co)).setCell ⟨w.heap.size + 1 + 1 + 1, 0, none⟩ (.int .i64 0) := ⟨_, rfl⟩
            have hDW : D < W.heap.size := (Array.getElem?_eq_some_iff.1 hK).1
            have hKr := (HT.out.2.2.block D hDW).trans hK
            have g1 : w20.cell? ⟨w.heap.size + 1 + 1, 0, none⟩ = some (.slice Ao no co) := by rw [hw20]; simp [go_sem, c6]
            have g2 : w20.cell? ⟨w.heap.size + 1 + 1 + 1, 0, none⟩ = some (.int .i64 0) := by rw [hw20]; simp [go_sem, c7]
            have g3 : w20.heap[D]? = some (.deferred (some [])) := by rw [hw20]; exact (KeepsOthers.setCell _ _ _).same D _ ((KeepsOthers.setCell _ _ _).same D _ hKr rfl) rfl
            have hz20 : w20.heap.size = wr.heap.size := by rw [hw20]; simp
            have g4 : Sq .u32 w20 W.heap.size wr.heap.size Ao no fo := by rw [hw20]; exact (HT.out.2.1.setLow (by show w.heap.size + 1 + 1 < _; omega)).setLow (by show w.heap.size + 1 + 1 + 1 < _; omega)
            have g5 : Below w.heap.size w w20 := by
              rw [hw20]
              exact (hbx8.b.setCell (p := ⟨w.heap.size + 1 + 1, 0, none⟩) (by show w.heap.size ≤ w.heap.size + 1 + 1; omega) _).setCell (p := ⟨w.heap.size + 1 + 1 + 1, 0, none⟩) (by show w.heap.size ≤ w.heap.size + 1 + 1 + 1; omega) _
            rw [← hw20]
            clear hw20
            have g1' := box_shut g1 g3
            have g2' := box_shut g2 g3
            have g5' := below_shut g5 (by omega) g3
            have g4' : Sq .u32 (w20.putObj D (.deferred none)) w.heap.size (w20.putObj D (.deferred none)).heap.size Ao no fo := ⟨g4.1, fun hn0 => by
              obtain ⟨b, off, e, h1, h2, h3⟩ := g4.2 hn0
              exact ⟨b, off, e, by omega, by simp; omega, fun j hj => box_shut (h3 j hj) g3⟩⟩
            refine marks_end1 rfl g3 (.tuple #[.slice Ao no co, .int .i64 0]) (by simp [results, Try.f32, go_sem, g1', g2']) ?_
            exact ⟨Ao, co, 0, no, fo, rfl, hco, g4', .inr (.inr (.inr (.inr ⟨hbad, by omega, fun ⟨j, hj, h⟩ => by have := HL.out j hj; omega, HAP.out, rfl, HT.out.1⟩))), g5'⟩
      case stop =>
        rintro D c pre W hD _ ⟨rfl, hap, cr, ce, hbW⟩ hK
        have hE : IpR m n x n y 7 0 (fun _ => 0) := .inr (.inr (.inr (.inl ⟨hbad, by omega, fun ⟨j, hj, h⟩ => by have := HL.out j hj; omega, hap, rfl, rfl⟩)))
        have cr' := box_shut cr hK
        have ce' := box_shut ce hK
        go_wp2
        exact marks_end1 rfl hK (.tuple #[.slice none 0 0, .int .i64 7]) (by simp [results, Try.f32, go_sem, cr', ce']) (ipR_fail hE (below_shut hbW (by omega) hK))
end Go.Proofs.Ytmidpholmgmdpaa
