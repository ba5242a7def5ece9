/- The contract of transform.New. -/
import Derived.Test.YtbajapjaejpcjaaTab
import Derived.Test.YtbajapjaejpcjaaRoot
import Derived.Test.YtbajapjaejpcjaaMInv
import Derived.BigRegion
namespace Go.Proofs.Ytbajapjaejpcjaa
open Go.RowKit
set_option linter.unusedVariables false
def dim6 (n : Int) : Prop := n = 2 ∨ n = 4 ∨ n = 8 ∨ n = 16 ∨ n = 32
def NewOk (n : Int) (q : Nat) : Prop := dim6 n ∧ q ≤ 2147483647 ∧ Mr.Pr q ∧ q % (2 * n.toNat) = 1
def pwF (q n ψ : Nat) (i : Nat) : Nat := if i < 2 * n then ψ ^ i % q else 0
/-- a pointer to a table for n and q -/
def IsTab (W : World) (lo : Nat) (n q : Nat) (p : Value) : Prop := ∃ b ψ s : Nat, p = .pointer (some ⟨b, 0, none⟩) ∧ lo ≤ b ∧ Least q (2 * n) ψ ∧ Cg q ((s : Int) * n) 1 ∧ s < q ∧ Tb W b n q (pwF q n ψ) s
def RetNew (w : World) (n : Int) (q : Nat) (e : Ending) (w' : World) : Prop :=
  Below w.heap.size w w' ∧ ((¬ NewOk n q ∧ e = .returned (.tuple #[.pointer none, .int .i64 2])) ∨
    (NewOk n q ∧ ∃ p, e = .returned (.tuple #[p, .int .i64 0]) ∧ IsTab w' w.heap.size n.toNat q p))

/-- the cells of the zero table -/
def zc6 : Array Value := #[.int .i64 0, .int .u64 0] ++ Array.replicate 64 (.int .u32 0) ++ #[.int .u64 0]
theorem zc6_zero (w : World) : Sem.run Try.prog (zeroValue 42) w = .ok (.agg zc6) w := by kernel_rfl
theorem zc6_size : zc6.size = 67 := by simp [zc6]
theorem zc6_ne : (zc6 = #[]) = False := by
  apply eq_false
  intro h
  have := zc6_size
  rw [h] at this
  cases this

theorem zc6_get {i : Nat} (h : i < 67) : zc6[i]? = some (if i = 0 then .int .i64 0 else if i = 1 then .int .u64 0 else if i < 66 then .int .u32 0 else .int .u64 0) := by
  unfold zc6
  by_cases h66 : i < 66
  · rw [Array.getElem?_append_left (by simp; omega)]
    by_cases h2 : i < 2
    · rcases (show i = 0 ∨ i = 1 by omega) with rfl | rfl <;> simp
    · rw [Array.getElem?_append_right (by simp; omega), if_neg (by omega), if_neg (by omega), if_pos h66, Array.getElem?_replicate]
      simp
      omega
  · obtain rfl : i = 66 := by omega
    rw [Array.getElem?_append_right (by simp)]
    simp
/-- the cells of a table whose first i powers are laid down -/
def tabF (n q ψ s i : Nat) : Nat → Value := fun k => if k = 0 then .int .i64 (n : Int) else if k = 1 then .int .u64 (q : Int) else if k < 66 then .int .u32 (((if k - 2 < i then ψ ^ (k - 2) % q else 0 : Nat) : Nat) : Int) else .int .u64 (s : Int)
theorem tabF_start {n q ψ : Nat} (hq : 2 ≤ q) (w : World) (t : TypeId) : (w.alloc (.cells (((zc6.setIfInBounds 0 (Value.int IntKind.i64 (n : Int))).setIfInBounds 1 (Value.int IntKind.u64 (q : Int))).setIfInBounds 2 (Value.int IntKind.u32 1)) t)).rowIs w.heap.size t 67 (tabF n q ψ 0 1) := by
  have h := World.rowIs_alloc w (((zc6.setIfInBounds 0 (Value.int IntKind.i64 (n : Int))).setIfInBounds 1 (Value.int IntKind.u64 (q : Int))).setIfInBounds 2 (Value.int IntKind.u32 1)) t (tabF n q ψ 0 1) fun i hi => ?_
  · have e : (((zc6.setIfInBounds 0 (Value.int IntKind.i64 (n : Int))).setIfInBounds 1 (Value.int IntKind.u64 (q : Int))).setIfInBounds 2 (Value.int IntKind.u32 1)).size = 67 := by simp [zc6_size]
    rw [e] at h
    exact h
  · have hi' : i < 67 := by simpa [zc6_size] using hi
    unfold tabF
    by_cases h0 : i = 0
    · subst h0; simp [zc6_size]
    by_cases h1 : i = 1
    · subst h1; simp [zc6_size]
    by_cases h2 : i = 2
    · subst h2
      simp [zc6_size]
      exact (Int.emod_eq_of_lt (by omega) (by omega)).symm
    · rw [Array.getElem?_setIfInBounds_ne (by omega), Array.getElem?_setIfInBounds_ne (by omega), Array.getElem?_setIfInBounds_ne (by omega), zc6_get hi']
      rw [if_neg h0, if_neg h1, if_neg h0, if_neg h1]
      split
      · rw [if_neg (by omega)]; rfl
      · rfl
theorem tabF_put {n q ψ s i : Nat} {w : World} {b t : Nat} (h : w.rowIs b t 67 (tabF n q ψ s i)) (hi : i < 64) {x : Nat} (hx : ψ ^ i % q = x) : (w.setCell ⟨b, 2 + i, none⟩ (.int .u32 (x : Int))).rowIs b t 67 (tabF n q ψ s (i + 1)) := by
  refine (h.set (2 + i) _).congr fun k hk => ?_
  unfold tabF
  by_cases e : k = 2 + i
  · subst e
    rw [if_pos rfl, if_neg (by omega), if_neg (by omega), if_pos (by omega), if_pos (by omega), Nat.add_sub_cancel_left, hx]
  · rw [if_neg e]
    by_cases h0 : k = 0
    · rw [if_pos h0, if_pos h0]
    by_cases h1 : k = 1
    · rw [if_neg h0, if_pos h1, if_neg h0, if_pos h1]
    rw [if_neg h0, if_neg h1, if_neg h0, if_neg h1]
    by_cases h2 : k < 66
    · rw [if_pos h2, if_pos h2]
      by_cases h3 : k - 2 < i
      · rw [if_pos h3, if_pos (by omega)]
      · rw [if_neg h3, if_neg (by omega)]
    · rw [if_neg h2, if_neg h2]
theorem tabF_q (n q ψ s i : Nat) : tabF n q ψ s i 1 = .int .u64 (q : Int) := rfl
theorem tabF_p {n q ψ s i j : Nat} (hj : j < i) (hj2 : j < 64) : tabF n q ψ s i (2 + j) = .int .u32 (((ψ ^ j % q : Nat) : Nat) : Int) := by
  unfold tabF
  rw [if_neg (by omega), if_neg (by omega), if_pos (by omega), Nat.add_sub_cancel_left, if_pos hj]
theorem tabF_z {n q ψ s i : Nat} (hj2 : i < 64) : tabF n q ψ s i (2 + i) = .int .u32 0 := by
  unfold tabF
  rw [if_neg (by omega), if_neg (by omega), if_pos (by omega), Nat.add_sub_cancel_left, if_neg (by omega)]
  rfl
theorem tabF_s (n q ψ s i : Nat) : tabF n q ψ s i 66 = .int .u64 (s : Int) := rfl
theorem tabF_tb {n q ψ s : Nat} {w : World} {b t : Nat} (h : w.rowIs b t 67 (tabF n q ψ 0 (2 * n))) : Tb (w.setCell ⟨b, 66, none⟩ (.int .u64 (s : Int))) b n q (pwF q n ψ) s := by
  have h2 : (w.setCell ⟨b, 66, none⟩ (.int .u64 (s : Int))).rowIs b t 67 (tabF n q ψ s (2 * n)) := by
    refine (h.set 66 _).congr fun k hk => ?_
    unfold tabF
    by_cases e : k = 66
    · subst e; rfl
    · rw [if_neg e]
      by_cases h0 : k = 0
      · rw [if_pos h0, if_pos h0]
      by_cases h1 : k = 1
      · rw [if_neg h0, if_pos h1, if_neg h0, if_pos h1]
      have h66 : k < 66 := by omega
      rw [if_neg h0, if_neg h1, if_neg h0, if_neg h1, if_pos h66, if_pos h66]
  refine ⟨h2.cell (by omega), h2.cell (by omega), fun i hi => ?_, h2.cell (by omega), h2.lt⟩
  have := h2.cell (show 2 + i < 67 by omega)
  rw [this]
  unfold tabF pwF
  rw [if_neg (by omega), if_neg (by omega), if_pos (by omega), Nat.add_sub_cancel_left]

theorem new_dim (n : Int) (q : Nat) (w : World) (h : ¬ dim6 n) : Calls Try.prog 23 #[.int .i64 n, .int .u32 q] w (RetNew w n q) := by
  have HN : Hid (¬ NewOk n q) := Lib.hid fun h2 => h h2.1
  unfold dim6 at h
  have q1 : (n == 2) = false := by simp; omega
  have q2 : (n == 4) = false := by simp; omega
  have q3 : (n == 8) = false := by simp; omega
  have q4 : (n == 16) = false := by simp; omega
  have q5 : (n == 32) = false := by simp; omega
  clear h
  go_enter Try.func23, Try.ntmps23
  go_wp2
  go_ret2
  exact ⟨Below.refl _ _, .inl ⟨HN.out, rfl⟩⟩

set_option maxRecDepth 100000 in
set_option maxHeartbeats 2000000 in
theorem new_good (n q : Nat) (w : World) (hd : n = 2 ∨ n = 4 ∨ n = 8 ∨ n = 16 ∨ n = 32) (h : NewOk (n : Int) q) : Calls Try.prog 23 #[.int .i64 (n : Int), .int .u32 q] w (RetNew w n q) := by
  have HOK := Lib.hid h
  obtain ⟨_, hq31, hpr, hmod⟩ := h
  rw [Int.toNat_natCast] at hmod
  have hq2 := hpr.1
  have hqn : 2 * n < q := by
    rcases Nat.lt_or_ge (2 * n) q with h1 | h1
    · exact h1
    · exfalso
      rcases Nat.lt_or_ge q (2 * n) with h2 | h2
      · rw [Nat.mod_eq_of_lt h2] at hmod; omega
      · rw [show q = 2 * n by omega, Nat.mod_self] at hmod; omega
  have hdv : 2 * n ∣ q - 1 := ⟨q / (2 * n), by have := Nat.div_add_mod q (2 * n); omega⟩
  have HP := Lib.hid (prime_any q w (by omega))
  rw [prB_yes hpr] at HP
  have HR := Lib.hid (fun V => root_any (2 * n) q V (by omega) (by omega))
  have hroot : ∀ v E, RootR (2 * n) q v E → E = 0 ∧ Least q (2 * n) v := fun v E hr => by
    have hpre : RootPre (2 * n) q := ⟨hq2, hq31, hpr, by omega⟩
    rcases hr with ⟨h1, _⟩ | ⟨_, h1, _⟩ | ⟨_, _, h1, _⟩ | ⟨_, _, _, h2, h3⟩
    · exact absurd hpre h1
    · omega
    · exact absurd hdv h1
    · exact ⟨h2, h3⟩
  have HROOT := Lib.hid hroot
  have hmi : (q : Int) % (2 * (n : Int)) = 1 := by
    have : (q : Int) % (2 * (n : Int)) = ((q % (2 * n) : Nat) : Int) := by simp
    rw [this, hmod]; rfl
  have hmit : (q : Int).tmod (2 * (n : Int)) = 1 := by rw [Int.tmod_eq_emod_of_nonneg (by omega), hmi]
  have HPR := Lib.hid hpr
  have q0 : decide ((q : Int) > 2147483647) = false := decide_eq_false (by omega)
  have hd2 : 2 ≤ n ∧ n ≤ 32 := by omega
  clear hroot hmod hdv hpr
  have z1 := zc6_zero
  have z2 := zc6_ne
  have z3 := zc6_size
  have hcases : ((n : Int) == 2) = true ∨ (((n : Int) == 2) = false ∧ ((n : Int) == 4) = true) ∨ (((n : Int) == 2) = false ∧ ((n : Int) == 4) = false ∧ ((n : Int) == 8) = true) ∨ (((n : Int) == 2) = false ∧ ((n : Int) == 4) = false ∧ ((n : Int) == 8) = false ∧ ((n : Int) == 16) = true) ∨ (((n : Int) == 2) = false ∧ ((n : Int) == 4) = false ∧ ((n : Int) == 8) = false ∧ ((n : Int) == 16) = false ∧ ((n : Int) == 32) = true) := by
    simp only [beq_iff_eq, beq_eq_false_iff_ne]
    omega
  clear hd
  rcases hcases with d1 | ⟨d1, d2⟩ | ⟨d1, d2, d3⟩ | ⟨d1, d2, d3, d4⟩ | ⟨d1, d2, d3, d4, d5⟩
  all_goals
    go_enter Try.func23, Try.ntmps23
    go_wp2_with fail
    (with_reducible refine HP.out.mono ?_)
    rintro e w1 ⟨rfl, hb1⟩
    go_wp2_with fail
    refine (HR.out w1).mono ?_
    rintro e w2 ⟨v, E, rfl, hr, hb2⟩
    obtain ⟨rfl, hle⟩ := HROOT.out v E hr
    go_wp2_with fail
    have hrow := tabF_start (n := n) (q := q) (ψ := v) hq2 w2 42
    have hbt := (Below.refl w2.heap.size w2).alloc (Nat.le_refl _) (Obj.cells (((zc6.setIfInBounds 0 (Value.int IntKind.i64 (n : Int))).setIfInBounds 1 (Value.int IntKind.u64 (q : Int))).setIfInBounds 2 (Value.int IntKind.u32 1)) 42)
    have hlt := hrow.lt
    have HLE := Lib.hid hle
    have hvq := hle.2.1
    generalize w2.alloc (Obj.cells (((zc6.setIfInBounds 0 (Value.int IntKind.i64 (n : Int))).setIfInBounds 1 (Value.int IntKind.u64 (q : Int))).setIfInBounds 2 (Value.int IntKind.u32 1)) 42) = w3 at hrow hbt hlt ⊢
    clear hle z1 z2 z3 hmi hmit
    go_loopw [9] (fun I wr => ∃ i : Nat, I = .int .i64 (i : Int) ∧ 1 ≤ i ∧ i ≤ 2 * n ∧ wr.rowIs w2.heap.size 42 67 (tabF n q v 0 i) ∧ Below w2.heap.size w2 wr) (fun I _ => 2 * n - (intOf I).toNat)
    case atStart => exact ⟨1, rfl, Nat.le_refl _, by omega, hrow, hbt⟩
    case round =>
      clear hrow hbt hlt
      obtain ⟨i, rfl, hi1, hi2, hrow, hbt⟩ := hrel
      by_cases hin : i < 2 * n
      · have k1 := hrow.cell (show 2 + (i - 1) < 67 by omega)
        have k2 := hrow.cell (show 1 < 67 by omega)
        have kf := hrow.frozen (2 + i)
        rw [tabF_p (by omega) (by omega)] at k1
        rw [tabF_q] at k2
        have k3 := hrow.cell (show 2 + i < 67 by omega)
        rw [tabF_z (by omega)] at k3
        obtain ⟨x, hx⟩ : ∃ x, v ^ (i - 1) % q = x := ⟨_, rfl⟩
        have hxq : x < q := by rw [← hx]; exact Nat.mod_lt _ (by omega)
        rw [hx] at k1
        obtain ⟨m, hm⟩ : ∃ m, x * v = m := ⟨_, rfl⟩
        have hmi : (x : Int) * (v : Int) = (m : Int) := by rw [← hm]; simp
        have hmb : m ≤ 4611686009837453316 := by rw [← hm]; exact mul_lt_of hxq hvq hq31
        obtain ⟨y, hy⟩ : ∃ y, m % q = y := ⟨_, rfl⟩
        have hyi : (m : Int) % (q : Int) = (y : Int) := by rw [← hy]; simp
        have hyit : (m : Int).tmod (q : Int) = (y : Int) := by rw [Int.tmod_eq_emod_of_nonneg (by omega), hyi]
        have hyq : y < q := by rw [← hy]; exact Nat.mod_lt _ (by omega)
        have HY : Hid (v ^ i % q = y) := Lib.hid (by rw [← hy, ← hm, ← hx, Nat.mod_mul_mod, ← Nat.pow_succ]; congr 2; omega)
        have hkz : ((i : Int) - 1).toNat = i - 1 := by omega
        have hq0 : ¬ q = 0 := by omega
        have q1 : decide ((i : Int) < 2 * (n : Int)) = true := decide_eq_true (by omega)
        have HROW := Lib.hid hrow
        clear hrow hx hm hy
        go_wp2
        go_region
        go_wp2
        go_roundw
        case rel => exact ⟨i + 1, by go_num, by omega, hin, (tabF_put HROW.out (by omega) HY.out).drew, (hbt.setCell (p := ⟨w2.heap.size, 2 + i, none⟩) (Nat.le_refl _) _).drew⟩
        case measure => simp only [intOf]; omega
      · obtain rfl : i = 2 * n := by omega
        have q1 : decide (2 * (n : Int) < 2 * (n : Int)) = false := decide_eq_false (by omega)
        have hmn : (n : Int) % (q : Int) = (n : Int) := Int.emod_eq_of_lt (by omega) (by omega)
        have hmnt : (n : Int).tmod (q : Int) = (n : Int) := by rw [Int.tmod_eq_emod_of_nonneg (by omega), hmn]
        have hfit : fitsB q 1 (oneF n) = true := fits_one.2 ⟨by omega, hq2, hq31⟩
        have hg : Nat.gcd q n = 1 := HPR.out.coprime fun hd => by have := Nat.le_of_dvd (by omega) hd; omega
        obtain ⟨s, hs⟩ : ∃ s, invN n q = s := ⟨_, rfl⟩
        have hsp := invN_spec (a := n) (m := q) (by omega) hq2 hg
        rw [hs] at hsp
        have hsq := hsp.1
        have HS : Hid (Cg q ((s : Int) * n) 1) := Lib.hid (by
          rw [← Int.natCast_mul]
          exact Cg.nat.2 hsp.2)
        have HINV := Lib.hid (inverse_any n q wr)
        have hie := invE_ok hfit hg
        rw [hs] at hie
        have HIE := Lib.hid hie
        have HROW := Lib.hid hrow
        have hzr := hbt.size
        have hq0 : ¬ q = 0 := by omega
        clear hfit hg hs hsp hie hrow
        go_wp2_with fail
        refine HINV.out.mono ?_
        rintro e w5 ⟨hb5, rfl⟩
        rw [HIE.out]
        have HROW5 := Lib.hid (rowIs_below HROW.out hb5 HROW.out.lt)
        have kf := HROW5.out.frozen 66
        have k6 := HROW5.out.cell (show 66 < 67 by omega)
        rw [tabF_s] at k6
        have hb25 := hbt.trans (hb5.mono hzr)
        go_wp2_with fail
        go_ret2
        exact ⟨hb1.trans ((hb2.trans ((hb25.setCell (p := ⟨w2.heap.size, 66, none⟩) (Nat.le_refl _) _).mono hb2.size)).mono hb1.size), .inr ⟨HOK.out, _, rfl, w2.heap.size, v, s, rfl, Nat.le_trans hb1.size hb2.size, HLE.out, HS.out, hsq, tabF_tb HROW5.out⟩⟩
theorem dim6_bools {n : Nat} (hd : dim6 (n : Int)) : ((n : Int) == 2) = true ∨ (((n : Int) == 2) = false ∧ ((n : Int) == 4) = true) ∨ (((n : Int) == 2) = false ∧ ((n : Int) == 4) = false ∧ ((n : Int) == 8) = true) ∨ (((n : Int) == 2) = false ∧ ((n : Int) == 4) = false ∧ ((n : Int) == 8) = false ∧ ((n : Int) == 16) = true) ∨ (((n : Int) == 2) = false ∧ ((n : Int) == 4) = false ∧ ((n : Int) == 8) = false ∧ ((n : Int) == 16) = false ∧ ((n : Int) == 32) = true) := by
  unfold dim6 at hd
  simp only [beq_iff_eq, beq_eq_false_iff_ne]
  omega
theorem dim6_nat {n : Int} (hd : dim6 n) : ∃ k : Nat, n = (k : Int) ∧ 2 ≤ k ∧ k ≤ 32 := by
  unfold dim6 at hd
  exact ⟨n.toNat, by omega, by omega, by omega⟩

set_option maxRecDepth 100000 in
set_option maxHeartbeats 2000000 in
theorem new_bad (n q : Nat) (w : World) (hd : dim6 (n : Int)) (hq : q ≤ 4294967295) (h : ¬ NewOk (n : Int) q) : Calls Try.prog 23 #[.int .i64 (n : Int), .int .u32 q] w (RetNew w n q) := by
  have HN := Lib.hid h
  have hcase : 2147483647 < q ∨ (q ≤ 2147483647 ∧ ¬ Mr.Pr q) ∨ (q ≤ 2147483647 ∧ Mr.Pr q ∧ q % (2 * n) ≠ 1) := by
    rcases Nat.lt_or_ge 2147483647 q with h1 | h1
    · exact .inl h1
    · by_cases h2 : Mr.Pr q
      · exact .inr (.inr ⟨h1, h2, fun h3 => h ⟨hd, h1, h2, by rw [Int.toNat_natCast]; exact h3⟩⟩)
      · exact .inr (.inl ⟨h1, h2⟩)
  have hcs := dim6_bools hd
  obtain ⟨k, hk, hk2, hk32⟩ := dim6_nat hd
  have hn2 : 2 ≤ n ∧ n ≤ 32 := by omega
  clear h hd hk hk2 hk32
  rcases hcase with h1 | ⟨h1, h2⟩ | ⟨h1, h2, h3⟩
  · have q0 : decide ((q : Int) > 2147483647) = true := decide_eq_true (by omega)
    rcases hcs with d1 | ⟨d1, d2⟩ | ⟨d1, d2, d3⟩ | ⟨d1, d2, d3, d4⟩ | ⟨d1, d2, d3, d4, d5⟩
    all_goals
      go_enter Try.func23, Try.ntmps23
      go_wp2_with fail
      go_ret2
      exact ⟨Below.refl _ _, .inl ⟨HN.out, rfl⟩⟩
  · have q0 : decide ((q : Int) > 2147483647) = false := decide_eq_false (by omega)
    have HP := Lib.hid (prime_any q w hq)
    rw [prB_no h2] at HP
    clear h2
    rcases hcs with d1 | ⟨d1, d2⟩ | ⟨d1, d2, d3⟩ | ⟨d1, d2, d3, d4⟩ | ⟨d1, d2, d3, d4, d5⟩
    all_goals
      go_enter Try.func23, Try.ntmps23
      go_wp2_with fail
      (with_reducible refine HP.out.mono ?_)
      rintro e w1 ⟨rfl, hb1⟩
      go_wp2_with fail
      go_ret2
      exact ⟨hb1, .inl ⟨HN.out, rfl⟩⟩
  · have q0 : decide ((q : Int) > 2147483647) = false := decide_eq_false (by omega)
    have HP := Lib.hid (prime_any q w hq)
    rw [prB_yes h2] at HP
    obtain ⟨m, hm⟩ : ∃ m, q % (2 * n) = m := ⟨_, rfl⟩
    rw [hm] at h3
    have hmi : (q : Int) % (2 * (n : Int)) = (m : Int) := by rw [← hm]; simp
    have hmit : (q : Int).tmod (2 * (n : Int)) = (m : Int) := by rw [Int.tmod_eq_emod_of_nonneg (by omega), hmi]
    have q1 : ((m : Int) != 1) = true := by simp; omega
    have hn0 : ¬ 2 * n = 0 := by omega
    clear h2 hm h3
    rcases hcs with d1 | ⟨d1, d2⟩ | ⟨d1, d2, d3⟩ | ⟨d1, d2, d3, d4⟩ | ⟨d1, d2, d3, d4, d5⟩
    all_goals
      go_enter Try.func23, Try.ntmps23
      go_wp2_with fail
      (with_reducible refine HP.out.mono ?_)
      rintro e w1 ⟨rfl, hb1⟩
      go_wp2_with fail
      go_ret2
      exact ⟨hb1, .inl ⟨HN.out, rfl⟩⟩
theorem new_any (n : Int) (q : Nat) (w : World) (hq : q ≤ 4294967295) : Calls Try.prog 23 #[.int .i64 n, .int .u32 q] w (RetNew w n q) := by
  by_cases hd : dim6 n
  · obtain ⟨k, rfl, h1, h2⟩ := dim6_nat hd
    by_cases h : NewOk (k : Int) q
    · exact new_good k q w (by unfold dim6 at hd; omega) h
    · exact new_bad k q w hd hq h
  · exact new_dim n q w hd
end Go.Proofs.Ytbajapjaejpcjaa
