/- The iterator candidates of factor.Factors. -/
import Derived.Test.YtkklacgoeopekaaRg7
import Derived.Test.YtkklacgoeopekaaRet
namespace Go.Proofs.Ytkklacgoeopekaa
open Go.RowKit Go.Shelf
set_option linter.unusedVariables false
attribute [local go_sem] Oper.semAt_some

/-- the digits of k, the first n -/
def dgF (p n k : Nat) : Nat → Nat := fun j => if j < n then k / p ^ j % p else 0
theorem dgF_end {p n k i : Nat} (hp : 2 ≤ p) (hi : i ≤ n) (h : k / p ^ i = 0) : dgF p i k = dgF p n k := funext fun j => by
  unfold dgF
  by_cases h1 : j < i
  · rw [if_pos h1, if_pos (by omega)]
  · rw [if_neg h1]
    by_cases h2 : j < n
    · rw [if_pos h2]
      have h3 : 0 < p ^ i := Nat.pow_pos (by omega)
      have h4 := (Nat.div_eq_zero_iff_lt h3).1 h
      have h5 : p ^ i ≤ p ^ j := Nat.pow_le_pow_right (by omega) (by omega)
      rw [Nat.div_eq_of_lt (by omega), Nat.zero_mod]
    · rw [if_neg h2]
theorem dgF_lt {p : Nat} (hp : 2 ≤ p) (n k j : Nat) : dgF p n k j < p := by
  unfold dgF
  split
  · exact Nat.mod_lt _ (by omega)
  · omega
theorem dgF_row (p k i : Nat) : (List.range (i + 1)).map (ku .u32 (dgF p (i + 1) k)) = (List.range i).map (ku .u32 (dgF p i k)) ++ [.int .u32 ((k / p ^ i % p : Nat) : Int)] := by
  rw [List.range_succ, List.map_append]
  congr 1
  · refine List.map_congr_left fun j hj => ?_
    have := List.mem_range.1 hj
    unfold ku dgF
    rw [if_pos (by omega), if_pos this]
  · show [ku .u32 (dgF p (i + 1) k) i] = _
    unfold ku dgF
    rw [if_pos (by omega)]
theorem own_of_rows {k : IntKind} {w : World} {base e n c : Nat} {A : Option Addr} {f : Nat → Nat} (hz : ∀ j, n ≤ j → f j = 0) (h : w.ownsRow base e 1 (.slice A n c) n ((List.range n).map (ku k f))) : Own k w base e A n c f := ⟨hz, h⟩
theorem own_popN {k : IntKind} {w : World} {base e n c g : Nat} {f : Nat → Nat} (h : Own k w base e (some ⟨g, 0, none⟩) n c f) (hn : 0 < n) (h0 : f (n - 1) = 0) : Own k w base e (some ⟨g, 0, none⟩) (n - 1) c f := by
  rcases n with _ | n
  · omega
  · refine ⟨fun j hj => ?_, ?_⟩
    · rcases Nat.eq_or_lt_of_le hj with e1 | e1
      · rw [← e1]; exact h0
      · exact h.1 j e1
    · have h2 := h.2
      rw [List.range_succ, List.map_append] at h2
      exact ownsRow_pop (by simp) h2
def lnN : Value → Nat
  | .slice _ n _ => n
  | _ => 0
theorem cell_one_new (W : World) (u : Value) (t : TypeId) : ∀ (j : Nat) (x : Value), [u][j]? = some x → (W.alloc (.cells #[u] t)).cell? ((⟨W.heap.size, 0, none⟩ : Addr).add j) = some x := by
  intro j x hx
  rcases j with _ | j
  · have e : (⟨W.heap.size, 0, none⟩ : Addr).add 0 = ⟨W.heap.size, 0, none⟩ := by simp [Addr.add]
    rw [e, World.cell?_alloc_new]
    exact hx
  · simp at hx
theorem cd_below {w w1 : World} {B i c : Nat} {A : Option Addr} {f : Nat → Nat} {o : Obj} (h : Own .u32 w B 22 A i c f) (hB : B ≤ w.heap.size) (hg : (w.alloc o).grownBy w1 (Value.slice A i c).ownBlock) : Below B w w1 :=
  ((Below.refl _ w).alloc hB _).grown hg (by simp; omega) (fun q hq => by
    rcases h.cases with ⟨rfl, _, _⟩ | ⟨g, rfl, hgb, _⟩
    · simp [Value.ownBlock] at hq
    · simp only [Value.ownBlock, Option.some.injEq] at hq
      omega)
/-- a candidate in memory -/
def CandG (p n : Nat) (k : Nat) (v : Value) (W : World) : Prop := ∃ A m c, v = .slice A m c ∧ m ≤ n ∧ m ≤ c ∧ Sq .u32 W 0 W.heap.size A m (dgF p n k) ∧ (0 < m → dgF p n k (m - 1) ≠ 0)
def CandB (p n bp bn : Nat) (W : World) : Prop := W.cell? ⟨bp, 0, none⟩ = some (.int .u32 (p : Int)) ∧ W.cell? ⟨bn, 0, none⟩ = some (.int .i64 (n : Int))
theorem cand_any (p n : Nat) (w : World) : Calls Try.prog 27 #[.int .u32 p, .int .i64 n] w (fun e w' => e = .returned (.func (.func 49) #[] #[.pointer (some ⟨w.heap.size, 0, none⟩), .pointer (some ⟨w.heap.size + 1, 0, none⟩)]) ∧ w' = (w.alloc (.cells #[.int .u32 (p : Int)] 22)).alloc (.cells #[.int .i64 (n : Int)] 3)) := by
  go_enter Try.func27, Try.ntmps27
  go_wp2
  go_ret
  exact ⟨by simp, rfl⟩

set_option maxRecDepth 100000 in
set_option maxHeartbeats 40000000 in
theorem cand_iter (p n bp bn K : Nat) (hp : 2 ≤ p) (hp2 : p ≤ 65535) (hn : n ≤ 1000) (hpK : p ≤ K) (hK : K < 9223372036854775807) :
    IterC Try.prog 49 #[.pointer (some ⟨bp, 0, none⟩), .pointer (some ⟨bn, 0, none⟩)] (CandG p n) p K (CandB p n bp bn) := fun l J Jx W hJ hJB hY h0 => by
  obtain ⟨i0, hi, hz0, hz1, hz2⟩ := info_parts (P := Try.prog) (e := 22) (z := .int .u32 0) (size := 1) (bytes := 4) (by kernel_rfl)
  have hcp := (hJB _ _ h0).1.1
  refine callsIn_of_wp Try.func49 rfl trivial ?_ rfl
  simp only [Try.ntmps49, List.size_toArray, List.length_cons, List.length_nil, Nat.reduceAdd, Nat.reduceSub, Array.replicate_succ, Array.replicate_zero, List.push_toArray, List.append_toArray, List.nil_append, List.cons_append]
  have HJ := Lib.hid hJ
  have HJB := Lib.hid hJB
  have HY := Lib.hid hY
  have hp0 : ¬ p = 0 := by omega
  clear hJ hJB hY
  gi_wp2
  gi_loopw [4] (fun X wr => ∃ k : Nat, X = .int .u64 (k : Int) ∧ p ≤ k ∧ k ≤ K ∧ J k wr) (fun X _ => K + 1 - (intOf X).toNat)
  case atStart => exact ⟨p, rfl, Nat.le_refl _, hpK, h0⟩
  case round =>
    clear h0 hcp
    obtain ⟨k, rfl, hk, hkK, hj⟩ := hrel
    gi_wp2
    gi_loopw [5, 6] (fun L X w2 => ∃ (i : Nat) (A : Option Addr) (c : Nat), L = .slice A i c ∧ i ≤ n ∧ X = .int .u64 ((k / p ^ i : Nat) : Int) ∧ Own .u32 w2 W.heap.size 22 A i c (dgF p i k) ∧ J k w2) (fun L _ _ => n + 1 - lnN L)
    case atStart => exact ⟨0, none, 0, rfl, Nat.zero_le _, by simp, (Own.nil _ _ _ _).congr (fun j => by unfold dgF; rw [if_neg (by omega)]), hj⟩
    case round =>
      clear hj
      obtain ⟨i, A, c, rfl, hin, rfl, hown, hj⟩ := hrel
      obtain ⟨⟨hb1, hb2⟩, hsz⟩ := HJB.out _ _ hj
      have HOW := Lib.hid hown
      have HJW := Lib.hid hj
      have hkp : k / p ^ i ≤ k := Nat.div_le_self _ _
      have hnext : k / p ^ i / p = k / p ^ (i + 1) := by rw [Nat.div_div_eq_div_mul, Nat.pow_succ]
      have HEND := Lib.hid (fun h => dgF_end (n := n) (k := k) (i := i) hp hin h)
      have HRW := Lib.hid (dgF_row p k i)
      clear hown hj
      obtain ⟨X, hX⟩ : ∃ X, k / p ^ i = X := ⟨_, rfl⟩
      rw [hX] at hkp hnext HEND HRW ⊢
      clear hX
      by_cases hx : X = 0
      · subst hx
        rw [HEND.out rfl] at HOW
        clear HEND HRW hnext
        gi_wp2
        gi_loopw [5] (fun L w2 => ∃ (m : Nat) (A : Option Addr) (c : Nat), L = .slice A m c ∧ m ≤ n ∧ Own .u32 w2 W.heap.size 22 A m c (dgF p n k) ∧ J k w2) (fun L _ => lnN L)
        case atStart => exact ⟨_, _, _, rfl, by omega, HOW.out, HJW.out⟩
        case round =>
          clear HOW HJW hb1 hb2
          obtain ⟨m, A, c, rfl, hmn, hown, hj⟩ := hrel
          have HOW := Lib.hid hown
          have HJW := Lib.hid hj
          clear hown hj
          have yieldit : ∀ (A : Option Addr), Own .u32 wr W.heap.size 22 A m c (dgF p n k) → (0 < m → dgF p n k (m - 1) ≠ 0) → CandG p n k (.slice A m c) wr := fun A ho hm => ⟨A, m, c, rfl, hmn, ho.le, ho.sq (Nat.zero_le _), hm⟩
          have HYI := Lib.hid yieldit
          clear yieldit
          by_cases hm0 : m = 0
          · subst hm0
            obtain ⟨fn, tmps, assign, body, hy, hR⟩ := HY.out k _ wr HJW.out hk hkK (HYI.out A HOW.out (fun h => absurd h (by omega)))
            gi_wp2
            refine hR.mono ?_
            rintro e W2 (⟨rfl, hkK2, hJ2⟩ | ⟨rfl, hx2⟩)
            · gi_wp2
              go_roundw
              case rel => exact ⟨k + 1, by go_num, by omega, hkK2, hJ2⟩
              case measure => simp only [intOf]; omega
            · gi_wp2
              refine bodyPost_ret (results_none rfl _ _ _) rfl ?_
              exact ⟨⟨_, rfl⟩, hx2⟩
          · rcases HOW.out.cases with ⟨_, h0, _⟩ | ⟨g5, rfl, hg5b, hg5, hmc5, _, hc5, hf5⟩
            · omega
            have d1 : decide ((m : Int) > 0) = true := decide_eq_true (by omega)
            have d2 : decide (0 < m) = true := decide_eq_true (by omega)
            have k5 := hc5 (m - 1) (by omega)
            simp only [ku] at k5
            have i5 : 0 ≤ (m : Int) - 1 := by omega
            have i6 : (m : Int) - 1 < (m : Int) := by omega
            have i7 : ((m : Int) - 1).toNat = m - 1 := by omega
            have i8 : (m : Int) - 1 ≤ (c : Int) := by omega
            have hvl := dgF_lt hp n k (m - 1)
            obtain ⟨v, hv⟩ : ∃ v, dgF p n k (m - 1) = v := ⟨_, rfl⟩
            rw [hv] at k5 hvl
            clear hc5 hf5
            by_cases hv0 : v = 0
            · subst hv0
              have HPOP := Lib.hid (own_popN HOW.out (by omega) hv)
              clear hv
              gi_wp2
              go_roundw
              case rel => exact ⟨m - 1, _, c, rfl, by omega, HPOP.out, HJW.out⟩
              case measure => simp only [lnN]; omega
            · have d4 : (((v : Nat) : Int) == 0) = false := by rw [beq_eq_false_iff_ne]; omega
              have d5 : ¬ v = 0 := hv0
              obtain ⟨fn, tmps, assign, body, hy, hR⟩ := HY.out k _ wr HJW.out hk hkK (HYI.out _ HOW.out (fun _ => by rw [hv]; exact hv0))
              clear hv
              gi_wp2
              refine hR.mono ?_
              rintro e W2 (⟨rfl, hkK2, hJ2⟩ | ⟨rfl, hx2⟩)
              · gi_wp2
                go_roundw
                case rel => exact ⟨k + 1, by go_num, by omega, hkK2, hJ2⟩
                case measure => simp only [intOf]; omega
              · gi_wp2
                refine bodyPost_ret (results_none rfl _ _ _) rfl ?_
                exact ⟨⟨_, rfl⟩, hx2⟩
      have e1 : decide ((X : Int) > 0) = true := decide_eq_true (by omega)
      have e2 : decide (0 < X) = true := decide_eq_true (by omega)
      by_cases hil : i < n
      · have e3 : decide ((i : Int) < (n : Int)) = true := decide_eq_true (by omega)
        obtain ⟨d, hd⟩ : ∃ d, X % p = d := ⟨_, rfl⟩
        have hdp : d < p := by rw [← hd]; exact Nat.mod_lt _ (by omega)
        obtain ⟨q, hq⟩ : ∃ q, X / p = q := ⟨_, rfl⟩
        have hqX : q ≤ X := by rw [← hq]; exact Nat.div_le_self _ _
        have m1 : (X : Int) % (p : Int) = (d : Int) := by rw [← hd]; simp
        have m2 : (X : Int).tmod (p : Int) = (d : Int) := by rw [Int.tmod_eq_emod_of_nonneg (by omega), m1]
        have m3 : (X : Int) / (p : Int) = (q : Int) := by rw [← hq]; simp
        have m4 : (X : Int).tdiv (p : Int) = (q : Int) := by rw [Int.tdiv_eq_ediv_of_nonneg (by omega), m3]
        rw [hd] at HRW
        have HNX : Hid (((q : Nat) : Int) = ((k / p ^ (i + 1) : Nat) : Int)) := Lib.hid (by rw [← hq, hnext])
        clear hd hq hnext HEND
        gi_wp2_with (gi_at_builtin; refine wpListIn_append_own _ rfl _ _ 34 rfl W.heap.size 22 i0 (.int .u32 0) 1 4 Try.underlying34 hi hz0 hz1 hz2 rfl (by decide) (.slice A i c) _ _ rfl (HOW.out.2.alloc _) ⟨wr.heap.size, 0, none⟩ 1 1 [.int .u32 (d : Int)] rfl rfl (cell_one_new _ _ _) (by simp [Value.oneCell']) (by unfold maxLen; omega) (by omega) (by simp; omega) ?_; intro v' w1 hown' hgrow _; obtain ⟨A', c', rfl⟩ := own_value hown'; have hj' := HJ.out _ _ _ HJW.out (cd_below HOW.out hsz hgrow); have hbp1 := (HJB.out _ _ hj').1.1)
        rw [← HRW.out] at hown'
        have ho' := own_of_rows (k := .u32) (fun j hj => by unfold dgF; rw [if_neg (by omega)]) hown'
        go_roundw
        case rel => exact ⟨i + 1, A', c', rfl, hil, by rw [← HNX.out], ho', hj'⟩
        case measure => simp only [lnN]; omega
      · have e3 : decide ((i : Int) < (n : Int)) = false := decide_eq_false (by omega)
        obtain rfl : n = i := by omega
        clear HEND HRW hnext
        gi_wp2
        gi_loopw [5] (fun L w2 => ∃ (m : Nat) (A : Option Addr) (c : Nat), L = .slice A m c ∧ m ≤ n ∧ Own .u32 w2 W.heap.size 22 A m c (dgF p n k) ∧ J k w2) (fun L _ => lnN L)
        case atStart => exact ⟨_, _, _, rfl, by omega, HOW.out, HJW.out⟩
        case round =>
          clear HOW HJW hb1 hb2
          obtain ⟨m, A, c, rfl, hmn, hown, hj⟩ := hrel
          have HOW := Lib.hid hown
          have HJW := Lib.hid hj
          clear hown hj
          have yieldit : ∀ (A : Option Addr), Own .u32 wr W.heap.size 22 A m c (dgF p n k) → (0 < m → dgF p n k (m - 1) ≠ 0) → CandG p n k (.slice A m c) wr := fun A ho hm => ⟨A, m, c, rfl, hmn, ho.le, ho.sq (Nat.zero_le _), hm⟩
          have HYI := Lib.hid yieldit
          clear yieldit
          by_cases hm0 : m = 0
          · subst hm0
            obtain ⟨fn, tmps, assign, body, hy, hR⟩ := HY.out k _ wr HJW.out hk hkK (HYI.out A HOW.out (fun h => absurd h (by omega)))
            gi_wp2
            refine hR.mono ?_
            rintro e W2 (⟨rfl, hkK2, hJ2⟩ | ⟨rfl, hx2⟩)
            · gi_wp2
              go_roundw
              case rel => exact ⟨k + 1, by go_num, by omega, hkK2, hJ2⟩
              case measure => simp only [intOf]; omega
            · gi_wp2
              refine bodyPost_ret (results_none rfl _ _ _) rfl ?_
              exact ⟨⟨_, rfl⟩, hx2⟩
          · rcases HOW.out.cases with ⟨_, h0, _⟩ | ⟨g5, rfl, hg5b, hg5, hmc5, _, hc5, hf5⟩
            · omega
            have d1 : decide ((m : Int) > 0) = true := decide_eq_true (by omega)
            have d2 : decide (0 < m) = true := decide_eq_true (by omega)
            have k5 := hc5 (m - 1) (by omega)
            simp only [ku] at k5
            have i5 : 0 ≤ (m : Int) - 1 := by omega
            have i6 : (m : Int) - 1 < (m : Int) := by omega
            have i7 : ((m : Int) - 1).toNat = m - 1 := by omega
            have i8 : (m : Int) - 1 ≤ (c : Int) := by omega
            have hvl := dgF_lt hp n k (m - 1)
            obtain ⟨v, hv⟩ : ∃ v, dgF p n k (m - 1) = v := ⟨_, rfl⟩
            rw [hv] at k5 hvl
            clear hc5 hf5
            by_cases hv0 : v = 0
            · subst hv0
              have HPOP := Lib.hid (own_popN HOW.out (by omega) hv)
              clear hv
              gi_wp2
              go_roundw
              case rel => exact ⟨m - 1, _, c, rfl, by omega, HPOP.out, HJW.out⟩
              case measure => simp only [lnN]; omega
            · have d4 : (((v : Nat) : Int) == 0) = false := by rw [beq_eq_false_iff_ne]; omega
              have d5 : ¬ v = 0 := hv0
              obtain ⟨fn, tmps, assign, body, hy, hR⟩ := HY.out k _ wr HJW.out hk hkK (HYI.out _ HOW.out (fun _ => by rw [hv]; exact hv0))
              clear hv
              gi_wp2
              refine hR.mono ?_
              rintro e W2 (⟨rfl, hkK2, hJ2⟩ | ⟨rfl, hx2⟩)
              · gi_wp2
                go_roundw
                case rel => exact ⟨k + 1, by go_num, by omega, hkK2, hJ2⟩
                case measure => simp only [intOf]; omega
              · gi_wp2
                refine bodyPost_ret (results_none rfl _ _ _) rfl ?_
                exact ⟨⟨_, rfl⟩, hx2⟩
end Go.Proofs.Ytkklacgoeopekaa
