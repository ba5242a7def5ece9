/- The walk of the law PolyThrough. -/
import Derived.Test.YtoifjkandmnakaaInterp
import Derived.Test.YtoifjkandmnakaaPolyValues
namespace Go.Proofs.Ytoifjkandmnakaa
open Go.RowKit Go.Sort
set_option linter.unusedVariables false

theorem Thr.pol {m n k : Nat} {x y f : Nat → Nat} {w : World} {A : Option Addr} (h : Thr m n x y k f) (hm : 2 ≤ m) (hm2 : m ≤ 2147483647) (hn : n ≤ 256) (hs : SqO w A k f) : PolO m w A k f :=
  ⟨hs, chk_ok hm hm2 (by have := h.le; omega) (fun j _ => h.rs.1 j) fun hk => by
    have h1 := tl_last f k (by rw [h.to]; exact hk)
    rw [h.to] at h1
    exact h1⟩

set_option maxRecDepth 100000 in
set_option maxHeartbeats 4000000 in
theorem polyThrough_any (m n ny cx cy : Nat) (X Y : Option Addr) (x y : Nat → Nat) (w : World) (hx : Sq .u32 w 0 w.heap.size X n x) (hy : Sq .u32 w 0 w.heap.size Y ny y) (hn : n ≤ 9223372036854775807) (hny : ny ≤ 9223372036854775807) (hm : m ≤ 4294967295) :
    Calls Try.prog 11 #[.int .u32 m, .slice X n cx, .slice Y ny cy] w (RetV w (.bool true)) := by
  have HL := Lib.hid (large2_call n ny cx cy X Y w hn hny)
  have HX := Lib.hid hx
  have HY := Lib.hid hy
  clear hx hy
  by_cases hlong : 300 < n ∨ 300 < ny
  · rw [anyLong2_true hlong] at HL
    go_enter Try.func11, Try.ntmps11
    go_wp2_with fail
    refine (HL.out _ rfl).mono ?_
    rintro e w1 ⟨rfl, hb1⟩
    go_wp2_with fail
    refine (awake_any w1).mono ?_
    rintro e w2 ⟨rfl, hb2⟩
    go_wp2
    go_ret
    exact ⟨rfl, hb1.trans (hb2.mono hb1.size)⟩
  rw [anyLong2_false hlong] at HL
  go_enter Try.func11, Try.ntmps11
  go_wp2_with fail
  refine (HL.out _ rfl).mono ?_
  rintro e w1 ⟨rfl, hb1⟩
  have hz1 := hb1.size
  go_wp2_with fail
  refine (interp_any m n ny cx cy X Y x y w1 ((HX.out.below hb1 (Nat.le_refl _)).wide (Nat.le_refl _) hz1) ((HY.out.below hb1 (Nat.le_refl _)).wide (Nat.le_refl _) hz1) hn hny hm).mono ?_
  rintro e w2 ⟨A, c, E, k, f, rfl, hkc, hs, hip, hb2'⟩
  have hb2 := hb1.trans (hb2'.mono hz1)
  have hz2 := hb2.size
  have HS := Lib.hid hs
  clear hs hb2'
  rcases hip with ⟨hb, rfl, rfl⟩ | ⟨_, _, rfl, rfl⟩ | ⟨_, _, _, rfl, rfl⟩ | ⟨hb, hn2, hv, ha, rfl, rfl⟩ | ⟨hb, hn2, hv, ha, rfl, hth⟩
  · go_wp2_with fail
    refine (awake_any w2).mono ?_
    rintro e w3 ⟨rfl, hb3⟩
    go_wp2
    go_ret
    exact ⟨rfl, hb2.trans (hb3.mono hz2)⟩
  · go_wp2_with fail
    refine (awake_any w2).mono ?_
    rintro e w3 ⟨rfl, hb3⟩
    go_wp2
    go_ret
    exact ⟨rfl, hb2.trans (hb3.mono hz2)⟩
  · go_wp2_with fail
    refine (awake_any w2).mono ?_
    rintro e w3 ⟨rfl, hb3⟩
    go_wp2
    go_ret
    exact ⟨rfl, hb2.trans (hb3.mono hz2)⟩
  · unfold IpBad at hb
    obtain rfl : n = ny := by omega
    have hxm : ∀ j, j < n → x j < m := fun j hj => Nat.lt_of_not_le fun h => hv ⟨j, hj, .inl h⟩
    have HXM := Lib.hid hxm
    have HA := Lib.hid ha
    have q0 : decide ((m : Int) > 0) = true := decide_eq_true (by omega)
    clear hv ha hxm
    go_wp2_with fail
    go_loopw [9] (fun I wr => ∃ i : Nat, i ≤ n ∧ I = .int .i64 (i : Int) ∧ (∀ t s, s < t → t < i → Nat.gcd m (dif m (x t) (x s)) = 1) ∧ Below w2.heap.size w2 wr) (fun I _ => n - (intOf I).toNat)
    case atStart => exact ⟨0, Nat.zero_le _, rfl, fun t s _ h => absurd h (Nat.not_lt_zero t), Below.refl _ _⟩
    case round =>
      obtain ⟨i, hi, rfl, hun, hbel⟩ := hrel
      have HUN := Lib.hid hun
      clear hun
      have hzr := hbel.size
      by_cases hin : i < n
      · go_wp2_with fail
        go_loopw [10] (fun I wr2 => ∃ k : Nat, k ≤ i ∧ I = .int .i64 (k : Int) ∧ (∀ s, s < k → Nat.gcd m (dif m (x i) (x s)) = 1) ∧ Below w2.heap.size w2 wr2) (fun I _ => n - (intOf I).toNat)
        case atStart => exact ⟨0, Nat.zero_le _, rfl, fun s h => absurd h (Nat.not_lt_zero s), hbel⟩
        case round =>
          clear hbel hzr
          obtain ⟨k, hk, rfl, hun2, hbel⟩ := hrel
          have HUN2 := Lib.hid hun2
          clear hun2
          have hzr := hbel.size
          by_cases hki : k < i
          · have hkn : k < n := by omega
            obtain ⟨g, off, rfl, _, hg1, hcell⟩ := HX.out.2 (by omega)
            have hbw := hb2.trans (hbel.mono hz2)
            have hc1 := (hbw.cell (p := ⟨g, off + i, none⟩) (by show g < _; omega)).trans (hcell i hin)
            have hc2 := (hbw.cell (p := ⟨g, off + k, none⟩) (by show g < _; omega)).trans (hcell k hkn)
            have him := HXM.out i hin
            have hkm := HXM.out k hkn
            obtain ⟨xi, hxi⟩ : ∃ xi, x i = xi := ⟨_, rfl⟩
            obtain ⟨xk, hxk⟩ : ∃ xk, x k = xk := ⟨_, rfl⟩
            obtain ⟨d, hd⟩ : ∃ d, dif m (x i) (x k) = d := ⟨_, rfl⟩
            have hdif : d = (x i + m - x k) % m := hd.symm
            have hdm : d < m := by rw [← hd]; exact Nat.mod_lt _ (by omega)
            have HD := Lib.hid hd
            rw [hxi] at him hc1 hdif
            rw [hxk] at hkm hc2 hdif
            have hdi : ((xi : Int) + (m : Int) - (xk : Int)) % (m : Int) = (d : Int) := by rw [hdif, Int.natCast_emod, Int.ofNat_sub (by omega)]; simp
            have hdt : ((xi : Int) + (m : Int) - (xk : Int)).tmod (m : Int) = (d : Int) := by rw [Int.tmod_eq_emod_of_nonneg (by omega), hdi]
            obtain ⟨iv, bl, hI, hbl⟩ : ∃ (iv : Nat) (bl : Bool), (∀ V, Calls Try.prog 40 #[.int .u32 d, .int .u32 m] V (RetP V (.tuple #[.int .u32 (iv : Int), .bool bl]))) ∧ (Nat.gcd m d = 1 ∧ bl = true ∨ Nat.gcd m d ≠ 1 ∧ bl = false) := by
              by_cases hg : Nat.gcd m d = 1
              · exact ⟨_, true, fun V => inv_yes (rinverse_any d m V hdm (by omega) (by omega)) hg, .inl ⟨hg, rfl⟩⟩
              · exact ⟨0, false, fun V => inv_no (rinverse_any d m V hdm (by omega) (by omega)) hg, .inr ⟨hg, rfl⟩⟩
            have hI' : ∀ d' os, Calls Try.prog 40 #[.int .u32 d, .int .u32 m] (grow (redrawn wr d') os) fun e w'' => e = .returned (.tuple #[.int .u32 (iv : Int), .bool bl]) ∧ ∃ p : Regrown, w'' = grow (redrawn wr p.d) p.os := fun d' os => Calls.regrown_of ((hI _).mono fun e w' h => ⟨h.1, by rw [← h.2]; exact Below.refl _ _⟩)
            have HI := Lib.hid hI'
            have HBL := Lib.hid hbl
            have k3 := cell_regrown hc1
            have k4 := cell_regrown hc2
            have hw1 : IntKind.u64.wrap ((xi : Int) + (m : Int)) = (xi : Int) + (m : Int) := IntWalk.u64_in _ (by omega)
            have hw2 : IntKind.u64.wrap ((xi : Int) + (m : Int) - (xk : Int)) = (xi : Int) + (m : Int) - (xk : Int) := IntWalk.u64_in _ (by omega)
            have hm0 : ¬ m = 0 := by omega
            clear hd hxk hdif hI hI' hbl hc1 hc2 hbw hcell
            go_wp2_with fail
            refine wp_region_quiet_below (by kernel_rfl) (by kernel_rfl) ?_
            repeat
              refine wpQuiet_step (fun K hK => ?_)
              go_simp
              try go_bits
              first
                | (refine hK _ ?_; clear hK K)
                | (apply Exists.intro
                   refine ⟨fun _ => ?_, hK _ ?_⟩
                   exact HI.out _ _
                   clear hK K)
            refine wpQuiet_nil ?_
            rintro _ ⟨⟨d1, os1⟩, rfl⟩
            have hb9 := below_regrown wr d1 os1
            generalize grow (redrawn wr d1) os1 = w9 at hb9 ⊢
            have hb29 := hbel.trans (hb9.mono hzr)
            have hz9 := hb29.size
            clear k3 k4
            rcases HBL.out with ⟨hg, rfl⟩ | ⟨hg, rfl⟩
            · go_wp2
              go_roundw
              case rel =>
                have hr : ∀ s, s < k + 1 → Nat.gcd m (dif m (x i) (x s)) = 1 := fun s hs => by
                  rcases Nat.lt_or_ge s k with h | h
                  · exact HUN2.out s h
                  · obtain rfl : s = k := by omega
                    rw [HD.out]
                    exact hg
                first
                  | exact ⟨k + 1, hki, by go_num, hr, hb29⟩
                  | (rw [← hxi]; exact ⟨k + 1, hki, by omega, hr⟩)
              case measure => simp [intOf]; omega
            · go_wp2_with fail
              refine (awake_any w9).mono ?_
              rintro e w10 ⟨rfl, hb10⟩
              go_wp2
              go_ret
              exact ⟨rfl, hb2.trans ((hb29.trans (hb10.mono hz9)).mono hz2)⟩
          · obtain rfl : k = i := by omega
            go_wp2
            go_roundw
            case rel =>
              have hr : ∀ t s, s < t → t < k + 1 → Nat.gcd m (dif m (x t) (x s)) = 1 := fun t s h1 h2 => by
                rcases Nat.lt_or_ge t k with h | h
                · exact HUN.out t s h1 h
                · obtain rfl : t = k := by omega
                  exact HUN2.out s h1
              first
                | exact ⟨k + 1, hin, by go_num, hr, hbel⟩
                | exact hr
            case measure => simp [intOf]; omega
      · obtain rfl : n = i := by omega
        exact absurd (fun t s h1 h2 => HUN.out t s h1 h2) HA.out
  · unfold IpBad at hb
    obtain rfl : n = ny := by omega
    have hp := hth.pol (by omega) (by omega) hn2 (HS.out.o)
    have q1 : ((n : Int) != (n : Int)) = false := by simp
    have hle := hth.le
    have q2 : decide ((k : Int) > (n : Int)) = false := decide_eq_false (by omega)
    have HP := Lib.hid hp
    have HT := Lib.hid hth
    have HXM := Lib.hid (show ∀ j, j < n → x j < m from fun j hj => Nat.lt_of_not_le fun h => hv ⟨j, hj, .inl h⟩)
    clear hv ha hp hth
    go_wp2_with fail
    refine (checkO HP.out.sq (by omega)).mono ?_
    rintro e w3 ⟨rfl, hb3⟩
    have q3 : ((chk m k f : Int) != 0) = false := by rw [HP.out.ck]; rfl
    have q4 : ¬ n < k := by omega
    go_wp2_with fail
    go_loopw [13] (fun I wr => ∃ i : Nat, i ≤ n ∧ I = .int .i64 (i : Int) ∧ Below w2.heap.size w2 wr) (fun I _ => n - (intOf I).toNat)
    case atStart => exact ⟨0, Nat.zero_le _, rfl, hb3⟩
    case round =>
      obtain ⟨i, hi, rfl, hbel⟩ := hrel
      have hzr := hbel.size
      by_cases hin : i < n
      · obtain ⟨g, off, rfl, _, hg1, hcell⟩ := HX.out.2 (by omega)
        obtain ⟨g2, off2, rfl, _, hg2, hcell2⟩ := HY.out.2 (by omega)
        have hbw := hb2.trans (hbel.mono hz2)
        have hc1 := (hbw.cell (p := ⟨g, off + i, none⟩) (by show g < _; omega)).trans (hcell i hin)
        have hc2 := (hbw.cell (p := ⟨g2, off2 + i, none⟩) (by show g2 < _; omega)).trans (hcell2 i hin)
        have HC := Lib.hid hc2
        have him := HXM.out i hin
        have hv := HT.out.vo i hin
        clear hcell hcell2 hc2
        obtain ⟨xi, hxi⟩ : ∃ xi, x i = xi := ⟨_, rfl⟩
        rw [hxi] at him hc1 hv
        have HV := Lib.hid hv
        clear hv hxi
        go_wp2_with fail
        refine (evalO (HP.out.step hbel) him).mono ?_
        rintro e w5 ⟨rfl, hb5⟩
        have hbl5 := hbel.trans (Below.mono hb5 hzr)
        have hc2 := (Below.cell hb5 (p := ⟨g2, off2 + i, none⟩) (World.block_lt_of_cell? _ _ HC.out)).trans HC.out
        rw [HV.out]
        have q5 : (((y i : Nat) : Int) != ((y i : Nat) : Int)) = false := by simp
        go_wp2
        go_roundw
        case rel =>
          first
            | exact ⟨i + 1, hin, by go_num, hbl5⟩
            | trivial
        case measure => simp [intOf]; omega
      · obtain rfl : n = i := by omega
        go_wp2_with fail
        refine (awake_any wr).mono ?_
        rintro e w6 ⟨rfl, hb6⟩
        go_wp2
        go_ret
        exact ⟨rfl, hb2.trans ((hbel.trans (hb6.mono hzr)).mono hz2)⟩
end Go.Proofs.Ytoifjkandmnakaa
