/- The contracts of both Chain. -/
import Derived.Test.YthepdpfiahcfmaaChainG
namespace Go.Proofs.Ythepdpfiahcfmaa
open Go.RowKit Go.Shelf
set_option linter.unusedVariables false

theorem chGood {n : Int} {t : Nat} {c : Int} (h : ¬ ChBad n t c) : (∃ k : Nat, n = (k : Int) ∧ 4 ≤ k ∧ k ≤ 32 ∧ dimB (k : Int) = true) ∧ 3 ≤ t ∧ t % 2 = 1 ∧ t ≤ 2147483647 ∧ ∃ cnt : Nat, c = (cnt : Int) ∧ 1 ≤ cnt ∧ cnt ≤ 25 := by
  unfold ChBad at h
  have hd : dimB n = true := by
    cases hd : dimB n
    · exact absurd (.inl hd) h
    · rfl
  have h2 : ¬ (t < 3 ∨ t % 2 = 0 ∨ 2147483647 < t ∨ c < 1 ∨ 25 < c) := fun h' => h (.inr h')
  refine ⟨⟨n.toNat, ?_⟩, by omega, by omega, by omega, c.toNat, by omega, by omega, by omega⟩
  have h3 := dimB_iff.1 hd
  have h4 : n = (n.toNat : Int) := by omega
  exact ⟨h4, by omega, by omega, by rw [← h4]; exact hd⟩

theorem pchain_any (n c : Int) (t : Nat) (w : World) (ht : t ≤ 4294967295) (hc1 : -9223372036854775808 ≤ c) (hc2 : c ≤ 9223372036854775807) :
    Calls Try.prog 13 #[.int .i64 n, .int .u32 t, .int .i64 c] w (RetCh w (ChR n t c)) := by
  by_cases hb : ChBad n t c
  · exact pchain_bad n c t w ht hc1 hc2 hb
  · obtain ⟨⟨k, rfl, h1, h2, h3⟩, h4, h5, h6, cnt, rfl, h7, h8⟩ := chGood hb
    exact pchain_good k cnt t w h6 h7 h8 h1 h2 h3 h4 h5

set_option maxRecDepth 100000 in
set_option maxHeartbeats 2000000 in
theorem rchain_bad (n c : Int) (t : Nat) (w : World) (ht : t ≤ 4294967295) (hc1 : -9223372036854775808 ≤ c) (hc2 : c ≤ 9223372036854775807) (hbad : ChBad n t c) :
    Calls Try.prog 14 #[.int .i64 n, .int .u32 t, .int .i64 c] w (RetCh w (ChR n t c)) := by
  have HBAD := Lib.hid hbad
  have hc := chBad_cases hbad
  clear hbad
  rcases hc with h1 | ⟨h1, h2⟩ | ⟨h1, h2, h3⟩ | ⟨h1, h2, h3, h4⟩ | ⟨h1, h2, h3, h4, h5⟩ | ⟨h1, h2, h3, h4, h5, h6⟩
  · have HD := Lib.hid h1
    clear h1
    go_enter Try.func14, Try.ntmps14
    go_wp2_with fail
    (with_reducible refine (rdim_b _ HD.out _).mono ?_)
    rintro e w4 ⟨rfl, hw4⟩
    subst hw4
    go_wp2_with fail
    go_ret2
    exact ⟨none, 0, [], 2, rfl, Nat.le_refl _, Wl.nil _ _ _ _, .inl ⟨HBAD.out, rfl, rfl⟩, Below.refl _ _⟩
  · have HD := Lib.hid h1
    have q1 : decide ((t : Int) < 3) = true := decide_eq_true (by omega)
    clear h1
    go_enter Try.func14, Try.ntmps14
    go_wp2_with fail
    (with_reducible refine (rdim_b _ HD.out _).mono ?_)
    rintro e w4 ⟨rfl, hw4⟩
    subst hw4
    go_wp2_with fail
    go_ret2
    exact ⟨none, 0, [], 2, rfl, Nat.le_refl _, Wl.nil _ _ _ _, .inl ⟨HBAD.out, rfl, rfl⟩, Below.refl _ _⟩
  · have HD := Lib.hid h1
    have q1 : decide ((t : Int) < 3) = false := decide_eq_false (by omega)
    have q2 : ((t : Int) % 2 == 0) = true := by simp; omega
    clear h1 h3
    go_enter Try.func14, Try.ntmps14
    go_wp2_with fail
    (with_reducible refine (rdim_b _ HD.out _).mono ?_)
    rintro e w4 ⟨rfl, hw4⟩
    subst hw4
    go_wp2_with fail
    go_ret2
    exact ⟨none, 0, [], 2, rfl, Nat.le_refl _, Wl.nil _ _ _ _, .inl ⟨HBAD.out, rfl, rfl⟩, Below.refl _ _⟩
  · have HD := Lib.hid h1
    have q1 : decide ((t : Int) < 3) = false := decide_eq_false (by omega)
    have q2 : ((t : Int) % 2 == 0) = false := by simp; omega
    have q3 : decide ((t : Int) > 2147483647) = true := decide_eq_true (by omega)
    clear h1 h3
    go_enter Try.func14, Try.ntmps14
    go_wp2_with fail
    (with_reducible refine (rdim_b _ HD.out _).mono ?_)
    rintro e w4 ⟨rfl, hw4⟩
    subst hw4
    go_wp2_with fail
    go_ret2
    exact ⟨none, 0, [], 2, rfl, Nat.le_refl _, Wl.nil _ _ _ _, .inl ⟨HBAD.out, rfl, rfl⟩, Below.refl _ _⟩
  · have HD := Lib.hid h1
    have q1 : decide ((t : Int) < 3) = false := decide_eq_false (by omega)
    have q2 : ((t : Int) % 2 == 0) = false := by simp; omega
    have q3 : decide ((t : Int) > 2147483647) = false := decide_eq_false (by omega)
    have q4 : decide (c < 1) = true := decide_eq_true (by omega)
    clear h1 h3
    go_enter Try.func14, Try.ntmps14
    go_wp2_with fail
    (with_reducible refine (rdim_b _ HD.out _).mono ?_)
    rintro e w4 ⟨rfl, hw4⟩
    subst hw4
    go_wp2_with fail
    go_ret2
    exact ⟨none, 0, [], 2, rfl, Nat.le_refl _, Wl.nil _ _ _ _, .inl ⟨HBAD.out, rfl, rfl⟩, Below.refl _ _⟩
  · have HD := Lib.hid h1
    have q1 : decide ((t : Int) < 3) = false := decide_eq_false (by omega)
    have q2 : ((t : Int) % 2 == 0) = false := by simp; omega
    have q3 : decide ((t : Int) > 2147483647) = false := decide_eq_false (by omega)
    have q4 : decide (c < 1) = false := decide_eq_false (by omega)
    have q5 : decide (c > 25) = true := decide_eq_true (by omega)
    clear h1 h3
    go_enter Try.func14, Try.ntmps14
    go_wp2_with fail
    (with_reducible refine (rdim_b _ HD.out _).mono ?_)
    rintro e w4 ⟨rfl, hw4⟩
    subst hw4
    go_wp2_with fail
    go_ret2
    exact ⟨none, 0, [], 2, rfl, Nat.le_refl _, Wl.nil _ _ _ _, .inl ⟨HBAD.out, rfl, rfl⟩, Below.refl _ _⟩

set_option maxRecDepth 100000 in
set_option maxHeartbeats 4000000 in
theorem rchain_good (n cnt t : Nat) (w : World) (ht : t ≤ 2147483647) (hc1 : 1 ≤ cnt) (hc2 : cnt ≤ 25) (hn4 : 4 ≤ n) (hn32 : n ≤ 32) (hdim : dimB (n : Int) = true) (ht3 : 3 ≤ t) (htodd : t % 2 = 1) :
    Calls Try.prog 14 #[.int .i64 (n : Int), .int .u32 t, .int .i64 (cnt : Int)] w (RetCh w (ChR n t cnt)) := by
  obtain ⟨i0, hi, hz0, hz1, hz2⟩ := info_parts (P := Try.prog) (e := 22) (z := .int .u32 0) (size := 1) (bytes := 4) (by kernel_rfl)
  have HD := Lib.hid hdim
  have hngood : ¬ ChBad (n : Int) t (cnt : Int) := by unfold ChBad; rw [hdim]; simp; omega
  obtain ⟨s, hs⟩ : ∃ s, chS (n : Int) t = s := ⟨_, rfl⟩
  have hs' : 2 * n * t = s := hs
  have hsi : 2 * (n : Int) * (t : Int) = (s : Int) := by rw [← hs']; simp
  have hslo : 24 ≤ s := by rw [← hs']; exact Nat.mul_le_mul (show 8 ≤ 2 * n by omega) ht3
  have hshi : s ≤ 137438953408 := by rw [← hs']; exact Nat.mul_le_mul (show 2 * n ≤ 64 by omega) ht
  obtain ⟨K, hK⟩ : ∃ K, (2147483648 - 2) / s = K := ⟨_, rfl⟩
  have hquo : (2147483646 : Int) / (s : Int) = (K : Int) := by rw [← hK, Int.natCast_ediv]; rfl
  have hquot : (2147483646 : Int).tdiv (s : Int) = (K : Int) := by rw [Int.tdiv_eq_ediv_of_nonneg (by omega), hquo]
  have hs0 : ¬ s = 0 := by omega
  have HFIN := Lib.hid (fun l E (h : ChainR (dnF s K) K cnt l E) => (Or.inr ⟨hngood, by unfold chK; rw [hs, show 2147483646 / s = K from hK]; exact h⟩ : ChR (n : Int) t (cnt : Int) l E))
  have hKb : K ≤ 2147483646 := by rw [← hK]; exact Nat.div_le_self _ _
  have HK := Lib.hid hK
  clear hdim hngood hs hs' hK
  have q1 : decide ((t : Int) < 3) = false := decide_eq_false (by omega)
  have q2 : ((t : Int) % 2 == 0) = false := by simp; omega
  have q3 : decide ((t : Int) > 2147483647) = false := decide_eq_false (by omega)
  have q4 : decide ((cnt : Int) < 1) = false := decide_eq_false (by omega)
  have q5 : decide ((cnt : Int) > 25) = false := decide_eq_false (by omega)
  have q4' : ¬ cnt < 1 := by omega
  have q5' : ¬ 25 < cnt := by omega
  clear htodd
  go_enter Try.func14, Try.ntmps14
  go_wp2_with fail
  (with_reducible refine (rdim_b _ HD.out _).mono ?_)
  rintro e w4 ⟨rfl, hw4⟩
  subst hw4
  go_wp2_with fail
  go_loopw [9, 10] (fun O Kv wr => ∃ (k j : Nat) (l : List Nat) (v : Value), O = v ∧ Kv = .int .u64 (k : Int) ∧ k + j ≤ K ∧ K ≤ k + j ∧ chl (dnF s K) j = l ∧ l.length ≤ cnt ∧ (∀ i, i < j → 1073741824 < dnF s K i) ∧
    wr.ownsRow w.heap.size 22 1 v l.length (cw l) ∧ Below w.heap.size w wr) (fun _ Kv _ => (intOf Kv).toNat)
  case atStart => exact ⟨K, 0, [], _, rfl, rfl, by omega, by omega, rfl, by show 0 ≤ cnt; omega, fun i hi => absurd hi (Nat.not_lt_zero i), World.ownsRow_nil _ _ _ _, Below.refl _ _⟩
  case round =>
    clear hquo hquot
    obtain ⟨k, j, l, v, rfl, rfl, hk1, hk2, hl, hll, hup, hrow, hbl⟩ := hrel
    have hval : dnF s K j = k * s + 1 := by unfold dnF; rw [show K - j = k by omega]
    obtain ⟨d, hd⟩ : ∃ d, k * s = d := ⟨_, rfl⟩
    have hdi : (k : Int) * (s : Int) = (d : Int) := by rw [← hd]; simp
    have hdle : d ≤ 2147483646 := by
      rw [← hd]
      refine Nat.le_trans (Nat.mul_le_mul_right s (show k ≤ K by omega)) ?_
      rw [← HK.out]
      exact Nat.div_mul_le_self _ _
    have hkd : 0 < d → 0 < k := fun h => Nat.pos_of_ne_zero fun h0 => by rw [h0, Nat.zero_mul] at hd; omega
    rw [hd] at hval
    have HVAL := Lib.hid hval
    have HL := Lib.hid hl
    have HUP := Lib.hid hup
    have HROW := Lib.hid hrow
    have hsz := hbl.size
    clear hd hval hl hup
    obtain ⟨A, c, hO, hc, hwl⟩ := wl_of rfl hrow
    have HWL := Lib.hid hwl
    subst hO
    clear hwl
    have h100 : l.length < cnt ∨ l.length = cnt := by omega
    by_cases hbig : 1073741824 < d + 1
    · have q6 : decide ((d : Int) + 1 > 1073741824) = true := decide_eq_true (by omega)
      rcases h100 with hlt | heq
      · have q7 : decide (((l.length : Nat) : Int) < (cnt : Int)) = true := decide_eq_true (by omega)
        have HP := Lib.hid (rprime_any (d + 1) wr (by omega))
        rw [Int.natCast_add, Int.natCast_one] at HP
        obtain ⟨b, hb⟩ : ∃ b, prB (d + 1) = b := ⟨_, rfl⟩
        rw [hb] at HP
        have HUPN := Lib.hid (fun (i : Nat) (hi : i < j + 1) => (by
          rcases Nat.lt_or_ge i j with h3 | h3
          · exact HUP.out i h3
          · rw [show i = j by omega, HVAL.out]
            exact hbig : 1073741824 < dnF s K i))
        cases b
        · have hnp : ¬ Mr.Pr (dnF s K j) := fun h => by rw [HVAL.out] at h; rw [prB_yes h] at hb; cases hb
          have HNP := Lib.hid hnp
          have hk0 := hkd (by omega)
          clear hb hnp
          go_wp2_with fail
          (with_reducible refine HP.out.mono ?_)
          rintro e w2 ⟨rfl, hw2⟩
          subst hw2
          go_wp2
          go_roundw
          case rel => exact ⟨k - 1, j + 1, l, _, rfl, by go_num, by omega, by omega, by rw [chl_no HNP.out]; exact HL.out, hll, HUPN.out, HROW.out, hbl⟩
          case measure => simp only [intOf]; omega
        · have hpr := prB_true.1 hb
          rw [← HVAL.out] at hpr
          have HNP := Lib.hid hpr
          have hk0 := hkd (by omega)
          have HCL : Hid (chl (dnF s K) (j + 1) = l ++ [d + 1]) := Lib.hid (by rw [chl_yes HNP.out, HL.out, HVAL.out])
          clear hb hpr
          go_wp2_with fail
          (with_reducible refine HP.out.mono ?_)
          rintro e w2 ⟨rfl, hw2⟩
          subst hw2
          go_wp2_with (at_builtin; refine wpList_append_own_at _ rfl _ _ 28 rfl w.heap.size 22 i0 (.int .u32 0) 1 4 Try.underlying28 hi hz0 hz1 hz2 rfl (by decide) _ _ _ rfl (HROW.out.alloc _) ⟨wr.heap.size, 0, none⟩ 1 1 [.int .u32 ((d : Int) + 1)] rfl rfl (cell_one_new _ _ _) (by simp [Value.oneCell']) (by unfold maxLen; omega) (by omega) (by simp; omega) ?_; intro v' w1 hown' hgrow _ _)
          have hb1 : Below w.heap.size w w1 := (hbl.alloc hsz _).grown hgrow (by rw [World.size_alloc]; omega) (fun g hg => (HROW.out.lt g hg).1)
          go_roundw
          case rel =>
            refine ⟨k - 1, j + 1, l ++ [d + 1], _, rfl, by go_num, by omega, by omega, HCL.out, by rw [List.length_append, List.length_singleton]; omega, HUPN.out, ?_, hb1⟩
            rw [List.length_append, List.length_singleton, ← cw_snoc]
            exact hown'
          case measure => simp only [intOf]; omega
      · have q7 : decide (((l.length : Nat) : Int) < (cnt : Int)) = false := decide_eq_false (by omega)
        have hge : ¬ l.length < cnt := by omega
        have HEQ := Lib.hid heq
        clear heq
        go_wp2
        go_ret2
        exact ⟨A, c, l, 0, rfl, hc, HWL.out, HFIN.out _ _ (.inl ⟨j, by omega, HUP.out, HL.out, HEQ.out, rfl⟩), hbl⟩
    · have q6 : decide ((d : Int) + 1 > 1073741824) = false := decide_eq_false (by omega)
      rcases h100 with hlt | heq
      · have q7 : decide (((l.length : Nat) : Int) < (cnt : Int)) = true := decide_eq_true (by omega)
        go_wp2
        go_ret2
        exact ⟨none, 0, [], 4, rfl, Nat.le_refl _, Wl.nil _ _ _ _, HFIN.out _ _ (.inr ⟨j, by omega, .inr (by rw [HVAL.out]; omega), HUP.out, by rw [HL.out]; exact hlt, rfl, rfl⟩), hbl⟩
      · have q7 : decide (((l.length : Nat) : Int) < (cnt : Int)) = false := decide_eq_false (by omega)
        have hge : ¬ l.length < cnt := by omega
        have HEQ := Lib.hid heq
        clear heq
        go_wp2
        go_ret2
        exact ⟨A, c, l, 0, rfl, hc, HWL.out, HFIN.out _ _ (.inl ⟨j, by omega, HUP.out, HL.out, HEQ.out, rfl⟩), hbl⟩
theorem rchain_any (n c : Int) (t : Nat) (w : World) (ht : t ≤ 4294967295) (hc1 : -9223372036854775808 ≤ c) (hc2 : c ≤ 9223372036854775807) :
    Calls Try.prog 14 #[.int .i64 n, .int .u32 t, .int .i64 c] w (RetCh w (ChR n t c)) := by
  by_cases hb : ChBad n t c
  · exact rchain_bad n c t w ht hc1 hc2 hb
  · obtain ⟨⟨k, rfl, h1, h2, h3⟩, h4, h5, h6, cnt, rfl, h7, h8⟩ := chGood hb
    exact rchain_good k cnt t w h6 h7 h8 h1 h2 h3 h4 h5
end Go.Proofs.Ythepdpfiahcfmaa
