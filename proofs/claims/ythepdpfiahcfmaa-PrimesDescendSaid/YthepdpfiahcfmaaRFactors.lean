/- The contract of the reference's Factors. -/
import Derived.Test.YthepdpfiahcfmaaFactors
namespace Go.Proofs.Ythepdpfiahcfmaa
open Go.RowKit
set_option linter.unusedVariables false

def msr (a b : Int) : Nat := if a = 1 then 0 else 65538 - b.toNat
theorem msr_lt {nn n2 d : Nat} {e : Int} (h1 : 1 < nn) (hd : d ≤ 65536) (h : n2 = 1 ∨ (d : Int) < e) : msr (n2 : Int) e < msr (nn : Int) (d : Int) := by
  unfold msr
  rw [if_neg (show ¬ (nn : Int) = 1 by omega)]
  split
  · omega
  · omega

set_option maxRecDepth 100000 in
set_option maxHeartbeats 2000000 in
theorem rfactors_any (n : Nat) (w : World) (hn : n ≤ 4294967295) :
    Calls Try.prog 36 #[.int .u32 n] w (RetFac w n) := by
  obtain ⟨i0, hi, hz0, hz1, hz2⟩ := info_parts (P := Try.prog) (e := 45) (z := .agg #[.int .u32 0, .int .i64 0]) (size := 2) (bytes := 16) (by kernel_rfl)
  by_cases h0 : n = 0
  · subst h0
    go_enter Try.func36, Try.ntmps36
    go_wp2_with fail
    go_ret2
    exact ⟨none, 0, 2, [], rfl, Nat.le_refl _, fun h => absurd rfl h, .inl ⟨rfl, rfl, rfl⟩, Below.refl _ _⟩
  have q0 : ((n : Int) == 0) = false := by simp; omega
  go_enter Try.func36, Try.ntmps36
  go_wp2_with fail
  go_loopw [0, 4, 5] (fun Nv O Dv wr => ∃ (d nn : Nat) (l : List (Nat × Nat)) (v : Value), Nv = .int .u32 (nn : Int) ∧ Dv = .int .u64 (d : Int) ∧ O = v ∧ 2 ≤ d ∧ TD n d nn l ∧ (nn = 1 ∨ d ≤ 65536) ∧ nn * 2 ^ l.length ≤ n ∧
    wr.ownsRow w.heap.size 45 2 v l.length (cellsOf l) ∧ Below w.heap.size w wr) (fun Nv _ Dv _ => msr (intOf Nv) (intOf Dv))
  case atStart => exact ⟨2, n, [], _, rfl, rfl, rfl, by omega, TD.start, .inr (by omega), by simp, World.ownsRow_nil _ _ _ _, Below.refl _ _⟩
  case round =>
    obtain ⟨d, nn, l, v, rfl, rfl, rfl, hd, htd, hor, hlen, hrow, hbl⟩ := hrel
    have hnp := htd.pos (by omega)
    have hnn : nn ≤ n := Nat.le_trans (Nat.le_mul_of_pos_right nn (Nat.two_pow_pos _)) hlen
    have HT := Lib.hid (And.intro htd (And.intro hlen (And.intro hrow hbl)))
    clear htd hlen hrow hbl
    by_cases h1 : 1 < nn
    · have q1 : decide ((nn : Int) > 1) = true := decide_eq_true (by omega)
      have hd6 : d ≤ 65536 := by omega
      have hdd : 0 ≤ (d : Int) * (d : Int) ∧ (d : Int) * (d : Int) ≤ 18446744065119617025 := mul_lt_int32 (by omega) (by omega)
      by_cases hbr : nn < d * d
      · have q2 : decide ((d : Int) * (d : Int) > (nn : Int)) = true := decide_eq_true (by exact_mod_cast hbr)
        obtain ⟨hpr, hdn⟩ := HT.out.1.rest h1 hbr
        have HT2 := Lib.hid (HT.out.1.up (by omega) hdn fun p h1 h2 h3 => by rcases hpr.2 p h3.2 with h4 | h4 <;> (have := h3.1.1; omega))
        have hd2 : 2 ≤ nn := h1
        go_wp2_with fail
        go_loop [0, 6] (fun Nv K => ∃ (kk n2 : Nat), K = .int .i64 (kk : Int) ∧ Nv = .int .u32 (n2 : Int) ∧ nn = nn ^ kk * n2 ∧ 0 < n2) (fun _ K => 64 - (intOf K).toNat)
        case atStart => exact ⟨0, nn, rfl, rfl, by rw [Nat.pow_zero, Nat.one_mul], hnp⟩
        case round =>
          obtain ⟨kk, n2, rfl, rfl, hnd, hn2⟩ := hrel
          have hkb := pow_bound hd2 hnd hn2 (by omega)
          have hn2n : n2 ≤ nn := by rw [hnd]; exact Nat.le_mul_of_pos_left _ (Nat.pos_of_ne_zero fun h => by rw [h, Nat.zero_mul] at hnd; omega)
          have HND := Lib.hid hnd
          clear hnd
          by_cases hdv : nn ∣ n2
          · obtain ⟨q, hq⟩ := hdv
            have hq0 : 0 < q := Nat.pos_of_ne_zero fun h => by rw [h, Nat.mul_zero] at hq; omega
            have hmod : (n2 : Int) % (nn : Int) = 0 := by rw [hq, Int.natCast_mul]; exact Int.mul_emod_right _ _
            have hmodt : (n2 : Int).tmod (nn : Int) = 0 := by rw [Int.tmod_eq_emod_of_nonneg (by omega), hmod]
            have hquo : (n2 : Int) / (nn : Int) = (q : Int) := by rw [hq, Int.natCast_mul]; exact Int.mul_ediv_cancel_left _ (by omega)
            have hquot : (n2 : Int).tdiv (nn : Int) = (q : Int) := by rw [Int.tdiv_eq_ediv_of_nonneg (by omega), hquo]
            have hd0 : ¬ nn = 0 := by omega
            have hqn : q ≤ n2 := by rw [hq]; exact Nat.le_mul_of_pos_left _ (by omega)
            have HQ := Lib.hid hq
            clear hq
            go_wp2
            go_round
            case rel => exact ⟨kk + 1, q, by go_num, by first | rfl | go_num, (HND.out).trans (by rw [HQ.out, Nat.pow_succ, Nat.mul_assoc]), hq0⟩
            case measure => simp only [intOf]; omega
          · have hr0 : 0 < n2 % nn := Nat.pos_of_ne_zero fun h => hdv (Nat.dvd_of_mod_eq_zero h)
            obtain ⟨r, hr⟩ : ∃ r, n2 % nn = r := ⟨_, rfl⟩
            rw [hr] at hr0
            have hmod : (n2 : Int) % (nn : Int) = (r : Int) := by rw [← hr]; simp
            have hmodt : (n2 : Int).tmod (nn : Int) = (r : Int) := by rw [Int.tmod_eq_emod_of_nonneg (by omega), hmod]
            have hd0 : ¬ nn = 0 := by omega
            have hre : ((r : Int) == 0) = false := by simp; omega
            have hrz : ¬ (r : Int) = 0 := by omega
            clear hr
            by_cases hk0 : kk = 0
            · subst hk0
              rw [Nat.pow_zero, Nat.one_mul] at HND
              have hnn2 : nn = n2 := HND.out
              exact absurd (by rw [← hnn2]; exact Nat.dvd_refl nn) hdv
            · have hk1 : decide ((kk : Int) > 0) = true := decide_eq_true (by omega)
              have hll := len_bound HT.out.2.1 hnp hn
              have hsz := HT.out.2.2.2.size
              have htk := HT2.out.take (k := kk) (n' := n2) hd2 (by omega) HND.out hdv
              have hone : n2 = 1 ∨ nn + 1 ≤ 65536 := by
                refine .inl ?_
                have h1 : nn ^ 1 ≤ nn ^ kk := Nat.pow_le_pow_right hnp (by omega)
                rw [Nat.pow_one] at h1
                have h2 : nn * n2 ≤ nn ^ kk * n2 := Nat.mul_le_mul_right n2 h1
                have h3 := HND.out
                have h4 : nn * n2 ≤ nn * 1 := by omega
                have h5 := Nat.le_of_mul_le_mul_left h4 hnp
                omega
              have HTK := Lib.hid htk
              clear htk
              go_wp2_with (at_builtin; refine wpList_append_own_at _ rfl _ _ 41 rfl w.heap.size 45 i0 (.agg #[.int .u32 0, .int .i64 0]) 2 16 Try.underlying41 hi hz0 hz1 hz2 rfl (by decide) _ _ _ rfl (HT.out.2.2.1.alloc _) ⟨wr.heap.size, 0, none⟩ 1 1 [.int .u32 (nn : Int), .int .i64 (kk : Int)] rfl rfl (cell_two_new _ _ _ _) (by simp [Value.oneCell']) (by unfold maxLen; omega) (by omega) (by simp; omega) ?_; intro v' w1 hown' hgrow _ _)
              have hb1 : Below w.heap.size w w1 := (HT.out.2.2.2.alloc (by omega) _).grown hgrow (by rw [World.size_alloc]; omega) (fun g hg => ((HT.out.2.2.1).lt g hg).1)
              go_roundw
              case rel =>
                have e : cellsOf l ++ [.int .u32 (nn : Int), .int .i64 (kk : Int)] = cellsOf (l ++ [(nn, kk)]) := (cellsOf_snoc l (nn, kk)).symm
                rw [e] at hown'
                exact ⟨nn + 1, n2, l ++ [(nn, kk)], _, rfl, by go_num, rfl, by omega, HTK.out, hone, by rw [List.length_append, List.length_singleton]; exact len_take HT.out.2.1 HND.out hd2 hk0, by rw [List.length_append, List.length_singleton]; exact hown', hb1⟩
              case measure =>
                exact msr_lt h1 hd6 (.inr (by simp only [intOf]; omega))
      · have q2 : decide ((d : Int) * (d : Int) > (nn : Int)) = false := decide_eq_false (by exact_mod_cast hbr)
        have hd5 : d ≤ 65535 := by
          rcases Nat.lt_or_ge 65535 d with h | h
          · have : 65536 * 65536 ≤ d * d := Nat.mul_le_mul h h
            omega
          · exact h
        have HT2 := Lib.hid HT.out.1
        have hd2 : 2 ≤ d := hd
        go_wp2_with fail
        go_loop [0, 6] (fun Nv K => ∃ (kk n2 : Nat), K = .int .i64 (kk : Int) ∧ Nv = .int .u32 (n2 : Int) ∧ nn = d ^ kk * n2 ∧ 0 < n2) (fun _ K => 64 - (intOf K).toNat)
        case atStart => exact ⟨0, nn, rfl, rfl, by rw [Nat.pow_zero, Nat.one_mul], hnp⟩
        case round =>
          obtain ⟨kk, n2, rfl, rfl, hnd, hn2⟩ := hrel
          have hkb := pow_bound hd2 hnd hn2 (by omega)
          have hn2n : n2 ≤ nn := by rw [hnd]; exact Nat.le_mul_of_pos_left _ (Nat.pos_of_ne_zero fun h => by rw [h, Nat.zero_mul] at hnd; omega)
          have HND := Lib.hid hnd
          clear hnd
          by_cases hdv : d ∣ n2
          · obtain ⟨q, hq⟩ := hdv
            have hq0 : 0 < q := Nat.pos_of_ne_zero fun h => by rw [h, Nat.mul_zero] at hq; omega
            have hmod : (n2 : Int) % (d : Int) = 0 := by rw [hq, Int.natCast_mul]; exact Int.mul_emod_right _ _
            have hmodt : (n2 : Int).tmod (d : Int) = 0 := by rw [Int.tmod_eq_emod_of_nonneg (by omega), hmod]
            have hquo : (n2 : Int) / (d : Int) = (q : Int) := by rw [hq, Int.natCast_mul]; exact Int.mul_ediv_cancel_left _ (by omega)
            have hquot : (n2 : Int).tdiv (d : Int) = (q : Int) := by rw [Int.tdiv_eq_ediv_of_nonneg (by omega), hquo]
            have hd0 : ¬ d = 0 := by omega
            have hqn : q ≤ n2 := by rw [hq]; exact Nat.le_mul_of_pos_left _ (by omega)
            have HQ := Lib.hid hq
            clear hq
            go_wp2
            go_round
            case rel => exact ⟨kk + 1, q, by go_num, by first | rfl | go_num, (HND.out).trans (by rw [HQ.out, Nat.pow_succ, Nat.mul_assoc]), hq0⟩
            case measure => simp only [intOf]; omega
          · have hr0 : 0 < n2 % d := Nat.pos_of_ne_zero fun h => hdv (Nat.dvd_of_mod_eq_zero h)
            obtain ⟨r, hr⟩ : ∃ r, n2 % d = r := ⟨_, rfl⟩
            rw [hr] at hr0
            have hmod : (n2 : Int) % (d : Int) = (r : Int) := by rw [← hr]; simp
            have hmodt : (n2 : Int).tmod (d : Int) = (r : Int) := by rw [Int.tmod_eq_emod_of_nonneg (by omega), hmod]
            have hd0 : ¬ d = 0 := by omega
            have hre : ((r : Int) == 0) = false := by simp; omega
            have hrz : ¬ (r : Int) = 0 := by omega
            clear hr
            by_cases hk0 : kk = 0
            · subst hk0
              rw [Nat.pow_zero, Nat.one_mul] at HND
              have hnn2 : nn = n2 := HND.out
              subst hnn2
              have htp := HT2.out.pass (by omega) hdv
              have HTP := Lib.hid htp
              clear htp
              go_wp2
              go_roundw
              case rel => exact ⟨d + 1, nn, l, _, rfl, by go_num, rfl, by omega, HTP.out, .inr (by omega), HT.out.2.1, HT.out.2.2.1, HT.out.2.2.2⟩
              case measure =>
                exact msr_lt h1 hd6 (.inr (by simp only [intOf]; omega))
            · have hk1 : decide ((kk : Int) > 0) = true := decide_eq_true (by omega)
              have hll := len_bound HT.out.2.1 hnp hn
              have hsz := HT.out.2.2.2.size
              have htk := HT2.out.take (k := kk) (n' := n2) hd2 (by omega) HND.out hdv
              have hone : n2 = 1 ∨ d + 1 ≤ 65536 := by
                exact .inr (by omega)
              have HTK := Lib.hid htk
              clear htk
              go_wp2_with (at_builtin; refine wpList_append_own_at _ rfl _ _ 41 rfl w.heap.size 45 i0 (.agg #[.int .u32 0, .int .i64 0]) 2 16 Try.underlying41 hi hz0 hz1 hz2 rfl (by decide) _ _ _ rfl (HT.out.2.2.1.alloc _) ⟨wr.heap.size, 0, none⟩ 1 1 [.int .u32 (d : Int), .int .i64 (kk : Int)] rfl rfl (cell_two_new _ _ _ _) (by simp [Value.oneCell']) (by unfold maxLen; omega) (by omega) (by simp; omega) ?_; intro v' w1 hown' hgrow _ _)
              have hb1 : Below w.heap.size w w1 := (HT.out.2.2.2.alloc (by omega) _).grown hgrow (by rw [World.size_alloc]; omega) (fun g hg => ((HT.out.2.2.1).lt g hg).1)
              go_roundw
              case rel =>
                have e : cellsOf l ++ [.int .u32 (d : Int), .int .i64 (kk : Int)] = cellsOf (l ++ [(d, kk)]) := (cellsOf_snoc l (d, kk)).symm
                rw [e] at hown'
                exact ⟨d + 1, n2, l ++ [(d, kk)], _, rfl, by go_num, rfl, by omega, HTK.out, hone, by rw [List.length_append, List.length_singleton]; exact len_take HT.out.2.1 HND.out hd2 hk0, by rw [List.length_append, List.length_singleton]; exact hown', hb1⟩
              case measure =>
                exact msr_lt h1 hd6 (.inr (by simp only [intOf]; omega))
    · have q1 : decide ((nn : Int) > 1) = false := decide_eq_false (by omega)
      have h1' : nn = 1 := by omega
      have hll := len_bound HT.out.2.1 hnp hn
      have htd := HT.out.1
      rw [h1'] at htd
      have hfac := htd.over (by omega)
      obtain ⟨A, c, hO, hc, hpw⟩ := pw_of rfl HT.out.2.2.1
      have H := Lib.hid (And.intro hfac hpw)
      subst hO
      clear hfac hpw htd
      go_wp2
      go_ret2
      exact ⟨A, c, 0, l, rfl, hc, H.out.2, .inr ⟨by omega, rfl, H.out.1, by omega⟩, HT.out.2.2.2⟩
end Go.Proofs.Ythepdpfiahcfmaa
