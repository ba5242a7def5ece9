/- The contracts of the reference's Product and Mul of layer 6. -/
import Derived.Test.YtbajapjaejpcjaaRInv6
import Derived.Test.YtbajapjaejpcjaaQTail
namespace Go.Proofs.Ytbajapjaejpcjaa
open Go.RowKit
set_option linter.unusedVariables false

theorem prT_hit {q n i j k : Nat} {a b : Nat → Nat} (h : i + j = k) : prT q n a b i j k = a i * b j % q := by unfold prT; rw [if_pos h]
theorem prT_wrap {q n i j k : Nat} {a b : Nat → Nat} (h : i + j = k + n) (hn : 0 < n) : prT q n a b i j k = (q - a i * b j % q) % q := by unfold prT; rw [if_neg (by omega), if_pos h]
theorem prT_miss {q n i j k k0 : Nat} {a b : Nat → Nat} (hk : k ≠ k0) (h : i + j = k0 ∨ i + j = k0 + n) (hkn : k < n) (hk0 : k0 < n) (hi : i < n) (hj : j < n) : prT q n a b i j k = 0 := by
  unfold prT
  rw [if_neg (by omega), if_neg (by omega)]

set_option maxRecDepth 100000 in
set_option maxHeartbeats 4000000 in
theorem rproduct_any (q n c c' lo hi lo' hi' : Nat) (A A' : Option Addr) (a a' : Nat → Nat) (w : World) (hn2 : 1 ≤ n) (hn : n ≤ 32) (hq2 : 2 ≤ q) (hq : q ≤ 2147483647) (ha : Sq .u32 w lo hi A n a) (ha' : Sq .u32 w lo' hi' A' n a') (haq : ∀ i, i < n → a i < q) (haq' : ∀ i, i < n → a' i < q) (hhi : hi ≤ w.heap.size) (hhi' : hi' ≤ w.heap.size) :
    Calls Try.prog 34 #[.int .u32 q, .slice A n c, .slice A' n c'] w (RetRow w n (prF q n a a')) := by
  have HA := Lib.hid ha
  have HA' := Lib.hid ha'
  have HAQ := Lib.hid haq
  have HAQ' := Lib.hid haq'
  clear ha ha' haq haq'
  go_enter Try.func34, Try.ntmps34
  go_wp2_with (at_make; refine wpl_make rfl _ _ _ rfl e32 .i64 .i64 _ _ n rfl rfl rfl rfl (by omega) (by unfold maxLen; omega) ?_; intro w1 hr1 hb1 hs1)
  have HR := Lib.hid hr1
  clear hr1
  go_loopw [8] (fun I wr => ∃ i : Nat, I = .int .i64 (i : Int) ∧ i ≤ n ∧ wr.rowIs w.heap.size 22 n (ku .u32 (prA q n a a' i 0)) ∧ Below w.heap.size w wr) (fun I _ => n - (intOf I).toNat)
  case atStart => exact ⟨0, rfl, Nat.zero_le _, HR.out.congr fun k _ => by simp only [ku]; rw [prA_zero], hb1⟩
  case round =>
    clear hb1 HR hs1
    obtain ⟨i, rfl, hin, hrow, hbl⟩ := hrel
    have HROW := Lib.hid hrow
    clear hrow
    by_cases hil : i < n
    · have q1 : decide ((i : Int) < (n : Int)) = true := decide_eq_true (by omega)
      go_wp2
      go_loopw [9] (fun J wr => ∃ j : Nat, J = .int .i64 (j : Int) ∧ j ≤ n ∧ wr.rowIs w.heap.size 22 n (ku .u32 (prA q n a a' i j)) ∧ Below w.heap.size w wr) (fun J _ => n - (intOf J).toNat)
      case atStart => exact ⟨0, rfl, Nat.zero_le _, HROW.out, hbl⟩
      case round =>
        clear hbl HROW
        obtain ⟨j, rfl, hjn, hrow, hbl⟩ := hrel
        by_cases hjl : j < n
        · have q2 : decide ((j : Int) < (n : Int)) = true := decide_eq_true (by omega)
          obtain ⟨g1, o1, hA1, _, hg1, hcell1⟩ := HA.out.2 (by omega)
          obtain ⟨g2, o2, hA2, _, hg2, hcell2⟩ := HA'.out.2 (by omega)
          have k1 := (hbl.cell (p := ⟨g1, o1 + i, none⟩) (by show g1 < _; omega)).trans (hcell1 i hil)
          have k2 := (hbl.cell (p := ⟨g2, o2 + j, none⟩) (by show g2 < _; omega)).trans (hcell2 j hjl)
          have hxq := HAQ.out i hil
          have hyq := HAQ'.out j hjl
          obtain ⟨x, hx⟩ : ∃ x, a i = x := ⟨_, rfl⟩
          obtain ⟨y, hy⟩ : ∃ y, a' j = y := ⟨_, rfl⟩
          rw [hx] at k1 hxq
          rw [hy] at k2 hyq
          rw [hA1, hA2]
          obtain ⟨mm, hmm⟩ : ∃ mm, x * y = mm := ⟨_, rfl⟩
          have hmi : (x : Int) * (y : Int) = (mm : Int) := by rw [← hmm]; simp
          have hmb : mm ≤ 4611686009837453316 := by rw [← hmm]; exact mul_lt_of hxq hyq hq
          obtain ⟨z, hz⟩ : ∃ z, mm % q = z := ⟨_, rfl⟩
          have hzi : (mm : Int) % (q : Int) = (z : Int) := by rw [← hz]; simp
          have hzt : (mm : Int).tmod (q : Int) = (z : Int) := by rw [Int.tmod_eq_emod_of_nonneg (by omega), hzi]
          have hzq : z < q := by rw [← hz]; exact Nat.mod_lt _ (by omega)
          have hP : a i * a' j % q = z := by rw [hx, hy, hmm, hz]
          have HP := Lib.hid hP
          have hq0 : ¬ q = 0 := by omega
          have HROW := Lib.hid hrow
          clear hx hy hmm hz hP hcell1 hcell2 hA1 hA2
          by_cases hwr : i + j < n
          · have q3 : decide ((i : Int) + (j : Int) ≥ (n : Int)) = false := decide_eq_false (by omega)
            have q3' : ¬ (n : Int) ≤ (i : Int) + (j : Int) := by omega
            have k4 := hrow.cell hwr
            simp only [ku] at k4
            have hvq := prA_lt (q := q) (n := n) (a := a) (b := a') (by omega) i j (i + j)
            obtain ⟨v, hv⟩ : ∃ v, prA q n a a' i j (i + j) = v := ⟨_, rfl⟩
            rw [hv] at k4 hvq
            have f4 := hrow.frozen (i + j)
            have t1 : ((i : Int) + (j : Int)).toNat = i + j := by omega
            obtain ⟨v2, hv2⟩ : ∃ v2, (v + z) % q = v2 := ⟨_, rfl⟩
            have hv2i : ((v : Int) + (z : Int)) % (q : Int) = (v2 : Int) := by rw [← hv2]; simp
            have hv2t : ((v : Int) + (z : Int)).tmod (q : Int) = (v2 : Int) := by rw [Int.tmod_eq_emod_of_nonneg (by omega), hv2i]
            have hv2q : v2 < q := by rw [← hv2]; exact Nat.mod_lt _ (by omega)
            have HV : Hid (prA q n a a' i (j + 1) (i + j) = v2) := Lib.hid (by rw [prA_next, hv, prT_hit rfl, HP.out, hv2])
            clear hrow hv hv2
            go_wp2
            go_quiet (fail)
            have hb2 : Below w.heap.size w (wr.drewN nq) := below_drewN hbl nq
            have k4 : (wr.drewN nq).cell? ⟨w.heap.size, i + j, none⟩ = some (.int .u32 (v : Int)) := k4
            have f4 : (wr.drewN nq).frozen? ⟨w.heap.size, i + j, none⟩ = false := f4
            have HR2 : Hid ((wr.drewN nq).rowIs w.heap.size 22 n (ku .u32 (prA q n a a' i j))) := Lib.hid HROW.out
            clear k1 k2
            generalize wr.drewN nq = w2 at hb2 k4 f4 HR2 ⊢
            go_wp2
            go_roundw
            case rel =>
              refine ⟨j + 1, by go_num, hjl, (rowIs_set_ku HR2.out (i + j) v2).congr fun k hk => ?_, hb2.setCell (p := ⟨w.heap.size, i + j, none⟩) (Nat.le_refl _) _⟩
              simp only [ku]
              congr 2
              by_cases hki : k = i + j
              · rw [if_pos hki, hki, HV.out]
              · rw [if_neg hki, prA_next, prT_miss hki (.inl rfl) hk hwr hil hjl, Nat.add_zero, Nat.mod_eq_of_lt (prA_lt (by omega) i j k)]
            case measure => simp only [intOf]; omega
          · have q3 : decide ((i : Int) + (j : Int) ≥ (n : Int)) = true := decide_eq_true (by omega)
            have q3' : (n : Int) ≤ (i : Int) + (j : Int) := by omega
            obtain ⟨k0, hk0⟩ : ∃ k0, i + j = k0 + n := ⟨i + j - n, by omega⟩
            have hk0n : k0 < n := by omega
            have hk0i : (i : Int) + (j : Int) - (n : Int) = (k0 : Int) := by omega
            have k4 := hrow.cell hk0n
            simp only [ku] at k4
            have hvq := prA_lt (q := q) (n := n) (a := a) (b := a') (by omega) i j k0
            obtain ⟨v, hv⟩ : ∃ v, prA q n a a' i j k0 = v := ⟨_, rfl⟩
            rw [hv] at k4 hvq
            have f4 := hrow.frozen k0
            obtain ⟨z2, hz2⟩ : ∃ z2, (q - z) % q = z2 := ⟨_, rfl⟩
            have hz2i : ((q : Int) - (z : Int)) % (q : Int) = (z2 : Int) := by rw [← hz2, Int.natCast_emod, Int.ofNat_sub (by omega)]
            have hz2t : ((q : Int) - (z : Int)).tmod (q : Int) = (z2 : Int) := by rw [Int.tmod_eq_emod_of_nonneg (by omega), hz2i]
            have hz2q : z2 < q := by rw [← hz2]; exact Nat.mod_lt _ (by omega)
            obtain ⟨v2, hv2⟩ : ∃ v2, (v + z2) % q = v2 := ⟨_, rfl⟩
            have hv2i : ((v : Int) + (z2 : Int)) % (q : Int) = (v2 : Int) := by rw [← hv2]; simp
            have hv2t : ((v : Int) + (z2 : Int)).tmod (q : Int) = (v2 : Int) := by rw [Int.tmod_eq_emod_of_nonneg (by omega), hv2i]
            have hv2q : v2 < q := by rw [← hv2]; exact Nat.mod_lt _ (by omega)
            have HV : Hid (prA q n a a' i (j + 1) k0 = v2) := Lib.hid (by rw [prA_next, hv, prT_wrap hk0 (by omega), HP.out, hz2, hv2])
            have HK0 := Lib.hid hk0
            clear hrow hv hv2 hz2 hk0
            go_wp2
            go_quiet (fail)
            have hb2 : Below w.heap.size w (wr.drewN nq) := below_drewN hbl nq
            have k4 : (wr.drewN nq).cell? ⟨w.heap.size, k0, none⟩ = some (.int .u32 (v : Int)) := k4
            have f4 : (wr.drewN nq).frozen? ⟨w.heap.size, k0, none⟩ = false := f4
            have HR2 : Hid ((wr.drewN nq).rowIs w.heap.size 22 n (ku .u32 (prA q n a a' i j))) := Lib.hid HROW.out
            clear k1 k2
            generalize wr.drewN nq = w2 at hb2 k4 f4 HR2 ⊢
            go_wp2
            go_roundw
            case rel =>
              refine ⟨j + 1, by go_num, hjl, (rowIs_set_ku HR2.out k0 v2).congr fun k hk => ?_, hb2.setCell (p := ⟨w.heap.size, k0, none⟩) (Nat.le_refl _) _⟩
              simp only [ku]
              congr 2
              by_cases hki : k = k0
              · rw [if_pos hki, hki, HV.out]
              · rw [if_neg hki, prA_next, prT_miss hki (.inr HK0.out) hk hk0n hil hjl, Nat.add_zero, Nat.mod_eq_of_lt (prA_lt (by omega) i j k)]
            case measure => simp only [intOf]; omega
        · obtain rfl : n = j := by omega
          have q2 : decide ((n : Int) < (n : Int)) = false := decide_eq_false (by omega)
          have HROW := Lib.hid (hrow.congr (g := ku .u32 (prA q n a a' (i + 1) 0)) fun k _ => by simp only [ku]; rw [prA_row])
          clear hrow
          go_wp2
          go_roundw
          case rel => exact ⟨i + 1, by go_num, hil, HROW.out, hbl⟩
          case measure => simp only [intOf]; omega
    · obtain rfl : n = i := by omega
      have q1 : decide ((n : Int) < (n : Int)) = false := decide_eq_false (by omega)
      go_wp2
      go_ret
      exact ⟨_, rfl, Nat.le_refl _, HROW.out.congr fun k hk => by simp only [ku]; unfold prF; rw [if_pos hk], hbl⟩

set_option maxRecDepth 100000 in
set_option maxHeartbeats 1000000 in
theorem rmul6_any (b n q ψ m c m' c' lo hi lo' hi' : Nat) (A A' : Option Addr) (a a' : Nat → Nat) (w : World) (ht : Rb w b n q ψ) (hn2 : 1 ≤ n) (hn : n ≤ 32) (hq2 : 2 ≤ q) (hq : q ≤ 2147483647) (ha : Sq .u32 w lo hi A m a) (ha' : Sq .u32 w lo' hi' A' m' a') (hm : m ≤ 9223372036854775807) (hm' : m' ≤ 9223372036854775807) (hab : ∀ i, a i ≤ 4294967295) (hab' : ∀ i, a' i ≤ 4294967295) (hhi : hi ≤ w.heap.size) (hhi' : hi' ≤ w.heap.size) :
    Calls Try.prog 21 #[.pointer (some ⟨b, 0, none⟩), .slice A m c, .slice A' m' c'] w (RetRL w (Okl n q m a ∧ Okl n q m' a') n (prF q n a a')) := by
  have HV := Lib.hid (rvalid_any b n q ψ m c lo hi A a w ht hn hq ha hm hab hhi)
  have HT := Lib.hid ht
  have HA := Lib.hid ha
  have HA' := Lib.hid ha'
  have HAB' := Lib.hid hab'
  clear ht ha ha' hab hab'
  go_enter Try.func21, Try.ntmps21
  go_wp2_with fail
  (with_reducible refine HV.out.mono ?_)
  rintro e w1 ⟨hb1, hh⟩
  have hz1 := hb1.size
  rcases hh with ⟨hok, rfl⟩ | ⟨hok, rfl⟩
  rotate_left
  · have HOK := Lib.hid hok
    clear hok
    go_wp2_with fail
    go_ret2
    exact ⟨hb1, .inl ⟨fun h => HOK.out h.1, rfl⟩⟩
  have HOK := Lib.hid hok
  clear hok
  have HV2 := Lib.hid (rvalid_any b n q ψ m' c' lo' hi' A' a' w1 (HT.out.below hb1 HT.out.lt) hn hq (HA'.out.below hb1 hhi') hm' HAB'.out (by omega))
  go_wp2_with fail
  (with_reducible refine HV2.out.mono ?_)
  rintro e w2 ⟨hb2', hh⟩
  have hb2 := hb1.trans (hb2'.mono hz1)
  have hz2 := hb2.size
  rcases hh with ⟨hok, rfl⟩ | ⟨hok, rfl⟩
  rotate_left
  · have HOK2 := Lib.hid hok
    clear hok
    go_wp2_with fail
    go_ret2
    exact ⟨hb2, .inl ⟨fun h => HOK2.out h.2, rfl⟩⟩
  have HOK2 := Lib.hid hok
  clear hok
  have c2 := (HT.out.below hb2 HT.out.lt).cQ
  have e1 := HOK.out.1
  have e2 := HOK2.out.1
  subst e1
  subst e2
  have HPR := Lib.hid (rproduct_any q m' c c' lo hi lo' hi' A A' a a' w2 hn2 hn hq2 hq (HA.out.below hb2 hhi) (HA'.out.below hb2 hhi') HOK.out.2 HOK2.out.2 (by omega) (by omega))
  go_wp2_with fail
  refine HPR.out.mono ?_
  rintro e w3 ⟨b3, rfl, hbg3, hr3, hb3⟩
  have HR3 := Lib.hid hr3
  clear hr3
  go_wp2_with fail
  go_ret2
  exact ⟨hb2.trans (hb3.mono hz2), .inr ⟨⟨HOK.out, HOK2.out⟩, _, _, rfl, Nat.le_refl _, Sq.of_row HR3.out (Nat.le_refl _) (by omega) HR3.out.lt (fun k hk => prF_out hk) fun k hk => rfl⟩⟩
end Go.Proofs.Ytbajapjaejpcjaa
