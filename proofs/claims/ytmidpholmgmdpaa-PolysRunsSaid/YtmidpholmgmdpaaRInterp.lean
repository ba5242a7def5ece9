/- The contract of the reference's Interpolate. -/
import Derived.Test.YtmidpholmgmdpaaInterp
namespace Go.Proofs.Ytmidpholmgmdpaa
open Go.RowKit Go.Shelf Go.Sort
set_option linter.unusedVariables false

set_option maxRecDepth 100000 in
set_option maxHeartbeats 2000000 in
theorem rinterp_any (m n ny cx cy : Nat) (X Y : Option Addr) (x y : Nat → Nat) (w : World) (hi : Nat) (hx : Sq .u32 w 0 hi X n x) (hy : Sq .u32 w 0 hi Y ny y) (hhi : hi ≤ w.heap.size) (hn : n ≤ 9223372036854775807) (hny : ny ≤ 9223372036854775807) (hm : m ≤ 4294967295) :
    Calls Try.prog 36 #[.int .u32 m, .slice X n cx, .slice Y ny cy] w (RetIp w m n x ny y) := by
  have HX := Lib.hid hx
  have HY := Lib.hid hy
  clear hx hy
  by_cases h1 : m < 2
  · have d1 : decide ((m : Int) < 2) = true := decide_eq_true (by omega)
    go_enter Try.func36, Try.ntmps36
    go_wp2_with fail
    go_ret2
    exact ipR_fail (E := 2) (.inl ⟨.inl h1, rfl, rfl⟩) (Below.refl _ _)
  have d1 : decide ((m : Int) < 2) = false := decide_eq_false (by omega)
  by_cases h2 : 2147483647 < m
  · have d2 : decide ((m : Int) > 2147483647) = true := decide_eq_true (by omega)
    go_enter Try.func36, Try.ntmps36
    go_wp2_with fail
    go_ret2
    exact ipR_fail (E := 2) (.inl ⟨.inr (.inl h2), rfl, rfl⟩) (Below.refl _ _)
  have d2 : decide ((m : Int) > 2147483647) = false := decide_eq_false (by omega)
  by_cases h3 : n ≠ ny
  · have d3 : ((n : Int) != (ny : Int)) = true := by simp; omega
    go_enter Try.func36, Try.ntmps36
    go_wp2_with fail
    go_ret2
    exact ipR_fail (E := 2) (.inl ⟨.inr (.inr h3), rfl, rfl⟩) (Below.refl _ _)
  obtain rfl : n = ny := by omega
  have d3 : ((n : Int) != (n : Int)) = false := by simp
  have hbad : ¬ IpBad m n n := by unfold IpBad; omega
  by_cases h4 : 256 < n
  · have d4 : decide ((n : Int) > 256) = true := decide_eq_true (by omega)
    go_enter Try.func36, Try.ntmps36
    go_wp2_with fail
    go_ret2
    exact ipR_fail (E := 3) (.inr (.inl ⟨hbad, h4, rfl, rfl⟩)) (Below.refl _ _)
  have d4 : decide ((n : Int) > 256) = false := decide_eq_false (by omega)
  go_enter Try.func36, Try.ntmps36
  go_wp2_with fail
  go_loop [8] (fun i => ∃ k : Nat, k ≤ n ∧ i = .int .i64 (k : Int) ∧ (∀ j, j < k → x j < m ∧ y j < m)) (fun i => n - (intOf i).toNat)
  case atStart => exact ⟨0, Nat.zero_le _, rfl, fun j hj => absurd hj (Nat.not_lt_zero j)⟩
  case round =>
    obtain ⟨k, hk, rfl, hlt⟩ := hrel
    have HL := Lib.hid hlt
    clear hlt
    by_cases hkn : k < n
    · obtain ⟨g, off, rfl, _, hg1, hcell⟩ := HX.out.2 (by omega)
      obtain ⟨g2, off2, rfl, _, hg2, hcell2⟩ := HY.out.2 (by omega)
      have hc1 := hcell k hkn
      have hc2 := hcell2 k hkn
      clear hcell hcell2
      by_cases hv : x k < m ∧ y k < m
      · have q1 : decide (((x k : Nat) : Int) ≥ (m : Int)) = false := decide_eq_false (by omega)
        have q2 : decide (((y k : Nat) : Int) ≥ (m : Int)) = false := decide_eq_false (by omega)
        have q3 : ¬ m ≤ x k := by omega
        have q4 : ¬ m ≤ y k := by omega
        go_wp2
        go_round
        case rel =>
          refine ⟨k + 1, by omega, by go_num, fun j hj => ?_⟩
          rcases Nat.lt_or_ge j k with h | h
          · exact HL.out j h
          · rw [show j = k from by omega]; exact hv
        case measure => simp [intOf]; omega
      · have q : m ≤ x k ∨ ¬ m ≤ x k ∧ m ≤ y k := by omega
        have hval : IpVal m n x y := ⟨k, hkn, by omega⟩
        rcases q with q1 | ⟨q1, q2⟩
        · have q3 : decide (((x k : Nat) : Int) ≥ (m : Int)) = true := decide_eq_true (by omega)
          go_wp2
          go_ret2
          exact ipR_fail (E := 2) (.inr (.inr (.inl ⟨hbad, by omega, hval, rfl, rfl⟩))) (Below.refl _ _)
        · have q3 : decide (((x k : Nat) : Int) ≥ (m : Int)) = false := decide_eq_false (by omega)
          have q4 : decide (((y k : Nat) : Int) ≥ (m : Int)) = true := decide_eq_true (by omega)
          go_wp2
          go_ret2
          exact ipR_fail (E := 2) (.inr (.inr (.inl ⟨hbad, by omega, hval, rfl, rfl⟩))) (Below.refl _ _)
    · obtain rfl : n = k := by omega
      go_wp2_with fail
      go_loopw [9, 10] (fun O I wr => ∃ (i no co : Nat) (fo : Nat → Nat) (Ao : Option Addr), i ≤ n ∧ I = .int .i64 (i : Int) ∧ O = .slice Ao no co ∧ no ≤ co ∧ LagrO m n i x y no fo ∧
        (∀ t j, t < i → j < n → j ≠ t → Nat.gcd m (dif m (x t) (x j)) = 1) ∧ Sq .u32 wr w.heap.size wr.heap.size Ao no fo ∧ Below w.heap.size w wr) (fun _ I _ => n - (intOf I).toNat)
      case atStart => exact ⟨0, 0, 0, fun _ => 0, none, Nat.zero_le _, rfl, rfl, Nat.le_refl _, LagrO.start (by omega), fun t _ h => absurd h (Nat.not_lt_zero t), Sq.nil _ _ _ _ _, Below.refl _ _⟩
      case round =>
        obtain ⟨i, no, co, fo, Ao, hi', rfl, rfl, hco, hlo, hun, hso, hbel⟩ := hrel
        have hzr := hbel.size
        have HUN := Lib.hid hun
        have HS := Lib.hid (And.intro hso (And.intro hbel hlo))
        clear hun hso hlo
        by_cases hin : i < n
        · obtain ⟨g, off, rfl, _, hg1, hcell⟩ := HX.out.2 (by omega)
          obtain ⟨g2, off2, rfl, _, hg2, hcell2⟩ := HY.out.2 (by omega)
          have hc1 := (hbel.cell (p := ⟨g, off + i, none⟩) (by show g < _; omega)).trans (hcell i hin)
          have hc2 := (hbel.cell (p := ⟨g2, off2 + i, none⟩) (by show g2 < _; omega)).trans (hcell2 i hin)
          have HC := Lib.hid (And.intro hcell hcell2)
          clear hcell hcell2
          obtain ⟨hxm, hym⟩ := HL.out i hin
          obtain ⟨xi, hxi⟩ : ∃ xi, x i = xi := ⟨_, rfl⟩
          obtain ⟨yi, hyi⟩ : ∃ yi, y i = yi := ⟨_, rfl⟩
          rw [hxi] at hxm hc1
          rw [hyi] at hym hc2
          go_wp2_with fail
          obtain ⟨w5, hw5⟩ : ∃ w5, w5 = wr.alloc (.cells #[.int .u32 (yi : Int)] 22) := ⟨_, rfl⟩
          have hb5 : Below wr.heap.size wr w5 := by rw [hw5]; exact (Below.refl _ _).alloc (Nat.le_refl _) _
          have hs5 : Sq .u32 w5 w.heap.size w5.heap.size (some ⟨wr.heap.size, 0, none⟩) 1 (oneF yi) := by rw [hw5]; exact sq_one rfl hzr (by rw [World.size_alloc]; omega)
          rw [← hw5]
          clear hw5 hc1 hc2
          have hls : Lagr m n i 0 x y 1 (oneF yi) := by rw [← hyi]; exact Lagr.start (by omega)
          have HP0 := Lib.hid (And.intro hs5 hls)
          clear hs5 hls
          go_loopw [11, 12] (fun O I wr2 => ∃ (k np cp : Nat) (fp : Nat → Nat) (Ap : Option Addr), k ≤ n ∧ I = .int .i64 (k : Int) ∧ O = .slice Ap np cp ∧ np ≤ cp ∧ Lagr m n i k x y np fp ∧
            (∀ j, j < k → j ≠ i → Nat.gcd m (dif m (x i) (x j)) = 1) ∧ Sq .u32 wr2 w.heap.size wr2.heap.size Ap np fp ∧ Below wr.heap.size wr wr2) (fun _ I _ => n - (intOf I).toNat)
          case atStart => exact ⟨0, 1, 1, oneF yi, _, Nat.zero_le _, rfl, rfl, Nat.le_refl _, HP0.out.2, fun _ h => absurd h (Nat.not_lt_zero _), HP0.out.1, hb5⟩
          case round =>
            clear HP0 hb5
            obtain ⟨k, np, cp, fp, Ap, hk, rfl, rfl, hcp, hlg, hun, hsp, hbel2⟩ := hrel
            have hle := hlg.le
            have HUN2 := Lib.hid hun
            have HS2 := Lib.hid (And.intro hsp (And.intro hbel2 hlg))
            have hz2 := hbel2.size
            clear hun hsp hlg
            by_cases hkn : k < n
            · by_cases hki : k = i
              · subst hki
                have q1 : ((k : Int) == (k : Int)) = true := beq_self_eq_true _
                go_wp2
                go_roundw
                case rel =>
                  exact ⟨k + 1, np, cp, fp, Ap, hkn, by go_num, rfl, hcp, HS2.out.2.2.skip, fun j h1 h2 => HUN2.out j (by omega) h2, HS2.out.1, HS2.out.2.1⟩
                case measure => simp [intOf]; omega
              · have q1 : ((k : Int) == (i : Int)) = false := by simp; omega
                have hbw := hbel.trans (hbel2.mono hzr)
                have hc1 := (hbw.cell (p := ⟨g, off + i, none⟩) (by show g < _; omega)).trans (HC.out.1 i hin)
                have hc2 := (hbw.cell (p := ⟨g, off + k, none⟩) (by show g < _; omega)).trans (HC.out.1 k hkn)
                obtain ⟨hkm, _⟩ := HL.out k hkn
                obtain ⟨xk, hxk⟩ : ∃ xk, x k = xk := ⟨_, rfl⟩
                obtain ⟨d, hd⟩ : ∃ d, dif m (x i) (x k) = d := ⟨_, rfl⟩
                have hdif : d = (x i + m - x k) % m := hd.symm
                have hdm : d < m := by rw [← hd]; exact Nat.mod_lt _ (by omega)
                have HD := Lib.hid hd
                rw [hxi] at hc1 hdif
                rw [hxk] at hkm hc2 hdif
                have hdi : ((xi : Int) + (m : Int) - (xk : Int)) % (m : Int) = (d : Int) := by rw [hdif, Int.natCast_emod, Int.ofNat_sub (by omega)]; simp
                have hdt : ((xi : Int) + (m : Int) - (xk : Int)).tmod (m : Int) = (d : Int) := by rw [Int.tmod_eq_emod_of_nonneg (by omega), hdi]
                obtain ⟨iv, bl, hI, hbl⟩ : ∃ (iv : Nat) (bl : Bool), (∀ V, Calls Try.prog 58 #[.int .u32 d, .int .u32 m] V (RetP V (.tuple #[.int .u32 (iv : Int), .bool bl]))) ∧ (Nat.gcd m d = 1 ∧ bl = true ∧ iv = invN d m ∨ Nat.gcd m d ≠ 1 ∧ bl = false) := by
                  by_cases hg : Nat.gcd m d = 1
                  · exact ⟨_, true, fun V => inv_yes (rinverse_any d m V hdm (by omega) (by omega)) hg, .inl ⟨hg, rfl, rfl⟩⟩
                  · exact ⟨0, false, fun V => inv_no (rinverse_any d m V hdm (by omega) (by omega)) hg, .inr ⟨hg, rfl⟩⟩
                have hI' : ∀ d' os, Calls Try.prog 58 #[.int .u32 d, .int .u32 m] (grow (redrawn wr d') os) fun e w'' => e = .returned (.tuple #[.int .u32 (iv : Int), .bool bl]) ∧ ∃ p : Regrown, w'' = grow (redrawn wr p.d) p.os := fun d' os => Calls.regrown_of ((hI _).mono fun e w' h => ⟨h.1, by rw [← h.2]; exact Below.refl _ _⟩)
                have HI := Lib.hid hI'
                have HBL := Lib.hid hbl
                have HXK := Lib.hid hxk
                have k3 := cell_regrown hc1
                have k4 := cell_regrown hc2
                have hw1 : IntKind.u64.wrap ((xi : Int) + (m : Int)) = (xi : Int) + (m : Int) := IntWalk.u64_in _ (by omega)
                have hw2 : IntKind.u64.wrap ((xi : Int) + (m : Int) - (xk : Int)) = (xi : Int) + (m : Int) - (xk : Int) := IntWalk.u64_in _ (by omega)
                have hm0 : ¬ m = 0 := by omega
                clear hd hxk hdif hI hI' hbl hc1 hc2 hbw
                go_wp2_with fail
                refine wp_region_quiet_below (by kernel_rfl) (by kernel_rfl) ?_
                repeat
                  refine wpQuiet_step (fun K hK => ?_)
                  go_simp
                  try go_bits
                  first
                    | (refine hK _ ?_; clear hK K)
                    | (apply Exists.intro
                       refine ⟨fun _ => ?_, hK _ ?_⟩
                       exact HI.out _ _
                       clear hK K)
                refine wpQuiet_nil ?_
                rintro _ ⟨⟨d1, os1⟩, rfl⟩
                have hb9 := below_regrown wr d1 os1
                generalize grow (redrawn wr d1) os1 = w9 at hb9 ⊢
                have hz9 := hb9.size
                clear k3 k4
                rcases HBL.out with ⟨hg, rfl, hiv⟩ | ⟨hg, rfl⟩
                · have hgi : Nat.gcd m (dif m (x i) (x k)) = 1 := by rw [HD.out]; exact hg
                  have hsp0 := invN_spec (a := d) (m := m) hdm (by omega) hg
                  rw [← hiv] at hsp0
                  have hst := HS2.out.2.2.step (inv := iv) (n := n) (by omega) (fun j hj => (HL.out j hj).1) (fun j hj => (HL.out j hj).2) hin hkn hki hsp0.1 (by rw [HD.out]; exact hsp0.2)
                  have hivm := hsp0.1
                  have HST := Lib.hid hst
                  have HG := Lib.hid hgi
                  have hbw9 := hb9.cell (p := ⟨g, off + k, none⟩) (by show g < _; omega)
                  have hc3 := hbw9.trans ((hbel.trans (hbel2.mono hzr)).cell (p := ⟨g, off + k, none⟩) (by show g < _; omega))
                  rw [HC.out.1 k hkn, HXK.out] at hc3
                  obtain ⟨lx, hlx⟩ : ∃ lx, (m - xk) % m = lx := ⟨_, rfl⟩
                  have hlxm : lx < m := by rw [← hlx]; exact Nat.mod_lt _ (by omega)
                  have hlxi : ((m : Int) - (xk : Int)) % (m : Int) = (lx : Int) := by rw [← hlx, Int.natCast_emod, Int.ofNat_sub (by omega)]
                  have hlin : linF m (x k) = litF [lx, 1] := by unfold linF; rw [HXK.out, hlx]
                  have HLIN := Lib.hid hlin
                  clear hgi hst hsp0 hiv hlx hlin hbw9
                  go_wp2_with fail
                  have sF : Sq .u32 (w9.alloc (.cells #[.int .u32 (lx : Int), .int .u32 1] 22)) w9.heap.size (w9.heap.size + 1) (some ⟨w9.heap.size, 0, none⟩) 2 (litF [lx, 1]) := sq_list .u32 w9 22 _ _ [lx, 1] (Nat.le_refl _) (Nat.lt_succ_self _)
                  have hb10' : Below w9.heap.size w9 (w9.alloc (.cells #[.int .u32 (lx : Int), .int .u32 1] 22)) := (Below.refl _ _).alloc (Nat.le_refl _) _
                  have hz10 : (w9.alloc (.cells #[.int .u32 (lx : Int), .int .u32 1] 22)).heap.size = w9.heap.size + 1 := World.size_alloc _ _
                  generalize w9.alloc (.cells #[.int .u32 (lx : Int), .int .u32 1] 22) = w10 at sF hb10' hz10 ⊢
                  have hb10 := hb9.trans (hb10'.mono hz9)
                  rw [← HLIN.out] at sF
                  have SF := Lib.hid sF
                  have rl := rs_lin (m := m) (x := x k) (by omega)
                  have hnp : np ≤ 257 := by split at hle <;> omega
                  have htn := tl_le fp np
                  clear sF hb10'
                  refine (rtrim_any Ap np cp fp w10 _ _ (HS2.out.1.below hb10 (Nat.le_refl _)) hcp (by omega)).mono ?_
                  rintro e w11 ⟨A11, c11, rfl, _, hs11, hb11⟩
                  have hz11 := hb11.size
                  have HS11 := Lib.hid hs11
                  clear hs11
                  obtain ⟨nt, hnt⟩ : ∃ nt, tl fp np = nt := ⟨_, rfl⟩
                  rw [hnt] at HST HS11 htn ⊢
                  go_wp2_with fail
                  refine (times_any m nt 2 c11 2 A11 _ fp (linF m (x k)) w11 _ _ _ _ HS11.out (SF.out.below hb11 (by omega)) (by omega) (by omega) HS2.out.2.2.rs.1 rl.1 (by omega) (by omega) (Nat.le_refl _) (by omega)).mono ?_
                  rintro e w12 ⟨A12, c12, rfl, _, hs12, hb12⟩
                  have hz12 := hb12.size
                  have HS12 := Lib.hid hs12
                  clear hs12
                  have htn2 := tl_le (mulF m fp (linF m (x k))) (nt + 2)
                  obtain ⟨nm, hnm⟩ : ∃ nm, tl (mulF m fp (linF m (x k))) (nt + 2) = nm := ⟨_, rfl⟩
                  rw [hnm] at HST HS12 htn2 ⊢
                  go_wp2_with fail
                  have sI : Sq .u32 (w12.alloc (.cells #[.int .u32 (iv : Int)] 22)) w12.heap.size (w12.heap.size + 1) (some ⟨w12.heap.size, 0, none⟩) 1 (oneF iv) := sq_one rfl (Nat.le_refl _) (Nat.lt_succ_self _)
                  have hb13 : Below w12.heap.size w12 (w12.alloc (.cells #[.int .u32 (iv : Int)] 22)) := (Below.refl _ _).alloc (Nat.le_refl _) _
                  have hz13 : (w12.alloc (.cells #[.int .u32 (iv : Int)] 22)).heap.size = w12.heap.size + 1 := World.size_alloc _ _
                  generalize w12.alloc (.cells #[.int .u32 (iv : Int)] 22) = w13 at sI hb13 hz13 ⊢
                  refine (times_any m nm 1 c12 1 A12 _ (mulF m fp (linF m (x k))) (oneF iv) w13 _ _ _ _ (HS12.out.below hb13 (Nat.le_refl _)) sI (by omega) (by omega) (mulF_lt (by omega) _ _) (rs_one hivm).1 (by omega) (by omega) (by omega) (by omega)).mono ?_
                  rintro e w14 ⟨A14, c14, rfl, hc14, hs14, hb14⟩
                  have hz14 := hb14.size
                  have HS14 := Lib.hid hs14
                  clear hs14 sI
                  obtain ⟨np', hnp'⟩ : ∃ np', tl (mulF m (mulF m fp (linF m (x k))) (oneF iv)) (nm + 1) = np' := ⟨_, rfl⟩
                  rw [hnp'] at HST HS14 hc14 ⊢
                  have hb014 := hb10.trans ((hb11.trans ((hb12.trans ((hb13.trans (hb14.mono (by omega))).mono hz12)).mono hz11)).mono (by omega))
                  clear hnt hnm hnp'
                  go_wp2
                  go_roundw
                  case rel =>
                    exact ⟨k + 1, np', c14, _, A14, hkn, by go_num, rfl, hc14, HST.out, fun j h1 h2 => by
                      rcases Nat.lt_or_ge j k with h | h
                      · exact HUN2.out j h h2
                      · obtain rfl : j = k := by omega
                        exact HG.out, HS14.out.wide (by omega) (Nat.le_refl _), HS2.out.2.1.trans (hb014.mono hz2)⟩
                  case measure => simp [intOf]; omega
                · have hE : IpR m n x n y 7 0 (fun _ => 0) := .inr (.inr (.inr (.inl ⟨hbad, by omega, fun ⟨j, hj, h⟩ => by have := HL.out j hj; omega, fun hap => hg (by rw [← HD.out]; exact hap.ne (fun j hj => (HL.out j hj).1) hin hkn hki), rfl, rfl⟩)))
                  go_wp2
                  go_ret2
                  exact ipR_fail (E := 7) hE ((HS.out.2.1.trans (hbel2.mono hzr)).trans (hb9.mono (by omega)))
            · obtain rfl : n = k := by omega
              rw [if_pos hin] at hle
              have hno := HS.out.2.2.le
              have hstep := HS.out.2.2.step HS2.out.2.2 (by omega) (fun j hj => (HL.out j hj).2) hin
              have HST := Lib.hid hstep
              have htn := tl_le fp np
              clear hstep
              go_wp2_with fail
              refine (rtrim_any Ap np cp fp wr _ _ HS2.out.1 hcp (by omega)).mono ?_
              rintro e w10 ⟨A10, c10, rfl, _, hs10, hb10⟩
              have hz10 := hb10.size
              have HS10 := Lib.hid hs10
              clear hs10
              obtain ⟨nt, hnt⟩ : ∃ nt, tl fp np = nt := ⟨_, rfl⟩
              rw [hnt] at HST HS10 htn ⊢
              have rn := rs_neg (m := m) (by omega) HS2.out.2.2.rs
              go_wp2_with fail
              refine (minus_any m 0 nt 0 c10 none A10 (fun _ => 0) fp w10 0 w10.heap.size _ _ (Sq.nil _ _ _ _ _) HS10.out (by omega) (by omega) (fun _ => by omega) HS2.out.2.2.rs.1 (by omega) (by omega) (Nat.le_refl _) (Nat.le_refl _)).mono ?_
              rintro e w11 ⟨A11, c11, rfl, _, hs11, hb11⟩
              have hz11 := hb11.size
              have HS11 := Lib.hid hs11
              clear hs11
              have htn2 := tl_le (subF m (fun _ => 0) fp) (max 0 nt)
              obtain ⟨nm, hnm⟩ : ∃ nm, tl (subF m (fun _ => 0) fp) (max 0 nt) = nm := ⟨_, rfl⟩
              rw [hnm] at HST HS11 htn2 ⊢
              have hb011 := hbel2.trans ((hb10.trans (hb11.mono hz10)).mono hz2)
              go_wp2_with fail
              refine (minus_any m no nm co c11 Ao A11 fo (subF m (fun _ => 0) fp) w11 _ _ _ _ (HS.out.1.below hb011 (Nat.le_refl _)) HS11.out (by omega) (by omega) HS.out.2.2.rs.1 rn.1 (by omega) (by omega) (by have := hb011.size; omega) (Nat.le_refl _)).mono ?_
              rintro e w12 ⟨A12, c12, rfl, hc12, hs12, hb12⟩
              have hz12 := hb12.size
              have HS12 := Lib.hid hs12
              clear hs12
              obtain ⟨no', hno'⟩ : ∃ no', tl (subF m fo (subF m (fun _ => 0) fp)) (max no nm) = no' := ⟨_, rfl⟩
              rw [hno'] at HST HS12 hc12 ⊢
              clear hnt hnm hno'
              go_wp2
              go_roundw
              case rel =>
                exact ⟨i + 1, no', c12, _, A12, hin, by go_num, rfl, hc12, HST.out, fun t j h1 h2 h3 => by
                  rcases Nat.lt_or_ge t i with h | h
                  · exact HUN.out t j h h2 h3
                  · obtain rfl : t = i := by omega
                    exact HUN2.out j h2 h3, HS12.out.wide (by omega) (Nat.le_refl _), HS.out.2.1.trans ((hb011.trans (hb12.mono (by have := hb011.size; omega))).mono hzr)⟩
              case measure => simp [intOf]; omega
        · obtain rfl : n = i := by omega
          have hE : IpR m n x n y 0 no fo := .inr (.inr (.inr (.inr ⟨hbad, by omega, fun ⟨j, hj, h⟩ => by have := HL.out j hj; omega, fun i k hki hin => HUN.out i k hin (by omega) (by omega), rfl, HS.out.2.2.thr⟩)))
          go_wp2
          go_ret2
          exact ⟨Ao, co, 0, no, fo, rfl, hco, HS.out.1, hE, HS.out.2.1⟩
end Go.Proofs.Ytmidpholmgmdpaa
