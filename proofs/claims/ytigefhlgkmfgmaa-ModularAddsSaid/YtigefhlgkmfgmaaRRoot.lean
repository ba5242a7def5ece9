/- The contracts of the reference's Generator and Root. -/
import Derived.Test.YtigefhlgkmfgmaaRoot
import Derived.Lib.QuietBelow
namespace Go.Proofs.Ytigefhlgkmfgmaa
open Go.RowKit Go.Sort
set_option linter.unusedVariables false

theorem Least.pos {n o v : Nat} (hp : Mr.Pr n) (h : Least n o v) : 1 ≤ v := by
  rcases Nat.eq_zero_or_pos v with h0 | h0
  · exfalso
    have h1 := U.coprime hp h.1.1 h.1.2.1
    rw [h0, Nat.gcd_zero_right] at h1
    have := hp.1
    omega
  · exact h0
theorem exists_least {n o : Nat} (hp : Mr.Pr n) (ho : 0 < o) (hd : o ∣ n - 1) : ∃ v, Least n o v := by
  obtain ⟨a, ha⟩ := exists_ord hp o ho hd
  have key : ∀ b, b < n → Ordr n b o → ∃ v, Least n o v := by
    intro b
    induction b using Nat.strongRecOn with
    | ind b ih =>
      intro hb hob
      rcases Classical.em (∃ u, u < b ∧ Ordr n u o) with ⟨u, h1, h2⟩ | h1
      · exact ih u h1 (by omega) h2
      · exact ⟨b, hob, hb, fun u h2 h3 => Nat.le_of_not_lt fun h4 => h1 ⟨u, h4, h3⟩⟩
  exact key (a % n) (Nat.mod_lt _ hp.pos) (Ordr.modl.2 ha)
theorem Ordr.down {n g o M : Nat} (hg : Ordr n g (n - 1)) (ho : 0 < o) (hM : n - 1 = o * M) : Ordr n (g ^ M % n) o := by
  have h0 := hg.1
  have hM0 : 0 < M := Nat.pos_of_ne_zero fun h => by rw [h, Nat.mul_zero] at hM; omega
  refine Ordr.modl.2 ⟨ho, U.pow.2 (by rw [Nat.mul_comm, ← hM]; exact hg.2.1), fun e he => ?_⟩
  have h1 := hg.2.2 _ (U.pow.1 he)
  rw [hM, Nat.mul_comm o] at h1
  exact Nat.dvd_of_mul_dvd_mul_left hM0 h1
theorem U.fermat {n g : Nat} (hp : Mr.Pr n) (h1 : 1 ≤ g) (h2 : g < n) : Mr.U n g (n - 1) := Mr.flt hp fun h => by have := Nat.le_of_dvd (by omega) h; omega

set_option maxRecDepth 100000 in
set_option maxHeartbeats 1000000 in
theorem rgen_any (n g0 : Nat) (w : World) (hn : n ≤ 4294967295) (hp : Mr.Pr n) (hg : Least n (n - 1) g0) :
    Calls Try.prog 46 #[.int .u32 n] w (RetV w (.int .u32 (g0 : Int))) := by
  have hn2 := hp.1
  have hg1 := hg.pos hp
  have hgn := hg.2.1
  have HP := Lib.hid hp
  have HG := Lib.hid hg
  obtain ⟨N, hN⟩ : ∃ N, n - 1 = N := ⟨_, rfl⟩
  have hNi : (n : Int) - 1 = (N : Int) := by omega
  rw [hN] at HG
  have HFER := Lib.hid (fun g (h1 : 1 ≤ g) (h2 : g < n) => U.fermat hp h1 h2)
  rw [hN] at HFER
  have hN0 : 0 < N := by omega
  clear hp hg hN
  go_enter Try.func46, Try.ntmps46
  go_wp2_with fail
  (with_reducible refine (rfactors_any N w (by omega)).mono ?_)
  rintro e w3 ⟨A, c, E, l, rfl, hlc, hpw, hfr, hb3⟩
  have hz3 := hb3.size
  rcases hfr with ⟨h0, _⟩ | ⟨_, rfl, hfac, hl40⟩
  · omega
  have HPW := Lib.hid hpw
  have HFAC := Lib.hid hfac
  clear hpw hfac
  go_wp2_with fail
  go_loop [5] (fun G => ∃ g : Nat, G = .int .u32 (g : Int) ∧ 1 ≤ g ∧ g ≤ g0) (fun G => g0 - (intOf G).toNat)
  case atStart => exact ⟨1, rfl, Nat.le_refl _, hg1⟩
  case round =>
    obtain ⟨g, rfl, hg1', hgg⟩ := hrel
    go_wp2_with fail
    go_loop [6, 7] (fun F I => ∃ (i : Nat) (f : Bool), I = .int .i64 (i : Int) ∧ i ≤ l.length ∧ F = .bool f ∧ TI n N l g i f) (fun _ I => l.length - (intOf I).toNat)
    case atStart => exact ⟨0, true, rfl, Nat.zero_le _, rfl, TI.start _ _ _ _⟩
    case round =>
      obtain ⟨i, f, rfl, hil, rfl, hti⟩ := hrel
      have HTI := Lib.hid hti
      clear hti
      by_cases hin : i < l.length
      · obtain ⟨b, rfl, hb1, hb2', hcell⟩ := HPW.out (by intro e; rw [e] at hin; exact absurd hin (Nat.not_lt_zero i))
        obtain ⟨x, hx⟩ : ∃ x, l[i]? = some x := ⟨l[i], List.getElem?_eq_getElem hin⟩
        obtain ⟨k1, k2⟩ := hcell i x hx
        obtain ⟨hqp, hqN⟩ := fac_prime HFAC.out (List.mem_of_getElem? hx)
        have hq2 := hqp.1
        have hqle := Nat.le_of_dvd hN0 hqN
        have HXX := Lib.hid hx
        obtain ⟨c', hc'⟩ := hqN
        clear hcell hx hqp
        obtain ⟨q, e⟩ := x
        simp only at k1 k2 hq2 hqle hc'
        have hq0 : ¬ q = 0 := by omega
        have hquo2 : (N : Int) / (q : Int) = (c' : Int) := by rw [hc', Int.natCast_mul]; exact Int.mul_ediv_cancel_left _ (by omega)
        have hquot2 : (N : Int).tdiv (q : Int) = (c' : Int) := by rw [Int.tdiv_eq_ediv_of_nonneg (by omega), hquo2]
        have hco : c' ≤ N := by rw [hc']; exact Nat.le_mul_of_pos_left _ (by omega)
        have hdiv : N / q = c' := by rw [hc', Nat.mul_div_cancel_left _ (by omega)]
        have HDIV := Lib.hid hdiv
        clear hc' hdiv
        cases f
        · go_wp2_with fail
          go_round
          case rel => exact ⟨i + 1, false, by go_num, hin, rfl, HTI.out.keep⟩
          case measure => simp only [intOf]; omega
        · obtain ⟨pv, hpv⟩ : ∃ pv, g ^ c' % n = pv := ⟨_, rfl⟩
          have hpvn : pv < n := by rw [← hpv]; exact Nat.mod_lt _ (by omega)
          have HPV := Lib.hid hpv
          have HPOW := Lib.hid (rpower_any g c' n w3 (by omega) (by omega) hn2 hn)
          rw [hpv] at HPOW
          clear hpv
          go_wp2_with fail
          (with_reducible refine HPOW.out.mono ?_)
          rintro e6 w6 ⟨rfl, hw6⟩
          subst hw6
          by_cases hu : pv = 1
          · have q4 : ((pv : Int) != 1) = false := by subst hu; rfl
            have HNX := Lib.hid (HTI.out.next (g := false) HXX.out hn2 (by show g ^ (N / q) % n = pv; rw [HDIV.out]; exact HPV.out) (by simp [hu]))
            clear hu
            go_wp2
            go_round
            case rel => exact ⟨i + 1, false, by go_num, hin, rfl, HNX.out⟩
            case measure => simp only [intOf]; omega
          · have q4 : ((pv : Int) != 1) = true := by simp; omega
            have HNX := Lib.hid (HTI.out.next (g := true) HXX.out hn2 (by show g ^ (N / q) % n = pv; rw [HDIV.out]; exact HPV.out) (by simp [hu]))
            clear hu
            go_wp2
            go_round
            case rel => exact ⟨i + 1, true, by go_num, hin, rfl, HNX.out⟩
            case measure => simp only [intOf]; omega
      · obtain rfl : i = l.length := by omega
        cases f
        · have hne : g ≠ g0 := fun h => HTI.out.bad HFAC.out (by rw [h]; exact HG.out.1)
          go_wp2
          go_round
          case rel => exact ⟨g + 1, by go_num, by omega, by omega⟩
          case measure => simp only [intOf]; omega
        · have hox := HTI.out.good HFAC.out hN0 (HFER.out g hg1' (by omega))
          have hle := HG.out.2.2 g (by omega) hox
          obtain rfl : g = g0 := by omega
          clear hox
          go_wp2
          go_ret
          exact ⟨rfl, hb3⟩

/-- the state of the reference's search: the powers 1 to k are done -/
def RI (n w o k lv av : Nat) : Prop := Ordr n lv o ∧ lv < n ∧ w ^ k % n = av ∧ ∀ j, 1 ≤ j → j ≤ k → Nat.gcd j o = 1 → lv ≤ w ^ j % n
theorem RI.start {n w o : Nat} (hw : Ordr n w o) (hlt : w < n) (hn : 2 ≤ n) : RI n w o 0 w 1 := ⟨hw, hlt, by rw [Nat.pow_zero]; exact Nat.mod_eq_of_lt hn, fun j h1 h2 => by omega⟩
theorem RI.keep {n w o k lv av : Nat} (h : RI n w o k lv av) (hk : Nat.gcd (k + 1) o = 1 → lv ≤ av * w % n) : RI n w o (k + 1) lv (av * w % n) := by
  obtain ⟨h1, h2, h3, h4⟩ := h
  have e : w ^ (k + 1) % n = av * w % n := by rw [Nat.pow_succ, ← h3, Nat.mod_mul_mod]
  refine ⟨h1, h2, e, fun j hj hj2 hg => ?_⟩
  rcases Nat.lt_or_ge k j with h5 | h5
  · obtain rfl : j = k + 1 := by omega
    rw [e]
    exact hk hg
  · exact h4 j hj h5 hg
theorem RI.take {n w o k lv av : Nat} (h : RI n w o k lv av) (hw : Ordr n w o) (hn : 0 < n) (hk : Nat.gcd (k + 1) o = 1) (hlt : av * w % n < lv) : RI n w o (k + 1) (av * w % n) (av * w % n) := by
  obtain ⟨h1, h2, h3, h4⟩ := h
  have e : w ^ (k + 1) % n = av * w % n := by rw [Nat.pow_succ, ← h3, Nat.mod_mul_mod]
  refine ⟨by rw [← e]; exact hw.pow hk, Nat.mod_lt _ hn, e, fun j hj hj2 hg => ?_⟩
  rcases Nat.lt_or_ge k j with h5 | h5
  · obtain rfl : j = k + 1 := by omega
    rw [e]
    exact Nat.le_refl _
  · have := h4 j hj h5 hg
    omega
theorem RI.done {n w o lv av : Nat} (h : RI n w o o lv av) (hp : Mr.Pr n) (hw : Ordr n w o) : Least n o lv := by
  refine least_of hp hw h.1 h.2.1 fun k hk hg => ?_
  rcases Nat.eq_zero_or_pos k with h0 | h0
  · subst h0
    rw [Nat.gcd_zero_left] at hg
    have h1 := h.2.2.2 1 (Nat.le_refl _) (by omega) (by rw [hg]; rfl)
    have h2 := hw.2.1
    rw [hg] at h2
    unfold Mr.U at h2
    rw [Nat.pow_zero]
    rw [h2] at h1
    exact h1
  · exact h.2.2.2 k h0 (by omega) hg

set_option maxRecDepth 100000 in
set_option maxHeartbeats 1000000 in
theorem rroot_any (o n : Nat) (w : World) (hn : n ≤ 4294967295) (ho : o ≤ 4294967295) :
    Calls Try.prog 27 #[.int .u32 o, .int .u32 n] w (RetRoot w o n) := by
  have HM := Lib.hid (modulus_any n w)
  by_cases hf : 2 ≤ n ∧ n ≤ 2147483647
  rotate_left
  · rw [decide_eq_false hf] at HM
    go_enter Try.func27, Try.ntmps27
    go_wp2_with fail
    (with_reducible refine HM.out.mono ?_)
    rintro e w' ⟨rfl, hw'⟩
    subst hw'
    go_wp2_with fail
    go_ret2
    exact ⟨0, 2, rfl, .inl ⟨fun h => hf ⟨h.1, h.2.1⟩, rfl, rfl⟩, Below.refl _ _⟩
  rw [decide_eq_true hf] at HM
  obtain ⟨hf2, hf3⟩ := hf
  have HP := Lib.hid (rprime_any n w hn)
  cases hpr : prB n
  · rw [hpr] at HP
    have hnp : ¬ Mr.Pr n := fun h => by rw [prB_yes h] at hpr; cases hpr
    have HNP := Lib.hid hnp
    clear hpr hnp
    go_enter Try.func27, Try.ntmps27
    go_wp2_with fail
    (with_reducible refine HM.out.mono ?_)
    rintro e w' ⟨rfl, hw'⟩
    subst hw'
    go_wp2_with fail
    (with_reducible refine HP.out.mono ?_)
    rintro e w2 ⟨rfl, hw'⟩
    subst hw'
    go_wp2_with fail
    go_ret2
    exact ⟨0, 2, rfl, .inl ⟨fun h => HNP.out h.2.2.1, rfl, rfl⟩, Below.refl _ _⟩
  rw [hpr] at HP
  have hprime := prB_true.1 hpr
  have HPR := Lib.hid hprime
  clear hpr hprime
  by_cases ho0 : o = 0
  · have q1 : decide ((o : Int) < 1) = true := decide_eq_true (by omega)
    have HO := Lib.hid ho0
    clear ho0
    go_enter Try.func27, Try.ntmps27
    go_wp2_with fail
    (with_reducible refine HM.out.mono ?_)
    rintro e w' ⟨rfl, hw'⟩
    subst hw'
    go_wp2_with fail
    (with_reducible refine HP.out.mono ?_)
    rintro e w2 ⟨rfl, hw'⟩
    subst hw'
    go_wp2_with fail
    go_ret2
    exact ⟨0, 2, rfl, .inl ⟨fun h => by have := h.2.2.2; have := HO.out; omega, rfl, rfl⟩, Below.refl _ _⟩
  have q1 : decide ((o : Int) < 1) = false := decide_eq_false (by omega)
  have hpre : RootPre o n := ⟨hf2, hf3, HPR.out, by omega⟩
  by_cases ho1 : 65536 < o
  · have q2 : decide ((o : Int) > 65536) = true := decide_eq_true (by omega)
    go_enter Try.func27, Try.ntmps27
    go_wp2_with fail
    (with_reducible refine HM.out.mono ?_)
    rintro e w' ⟨rfl, hw'⟩
    subst hw'
    go_wp2_with fail
    (with_reducible refine HP.out.mono ?_)
    rintro e w2 ⟨rfl, hw'⟩
    subst hw'
    go_wp2_with fail
    go_ret2
    exact ⟨0, 3, rfl, .inr (.inl ⟨hpre, ho1, rfl, rfl⟩), Below.refl _ _⟩
  have q2 : decide ((o : Int) > 65536) = false := decide_eq_false (by omega)
  obtain ⟨N, hN⟩ : ∃ N, n - 1 = N := ⟨_, rfl⟩
  have hNi : (n : Int) - 1 = (N : Int) := by omega
  by_cases hd : o ∣ N
  rotate_left
  · have hr0 : 0 < N % o := Nat.pos_of_ne_zero fun h => hd (Nat.dvd_of_mod_eq_zero h)
    obtain ⟨r, hr⟩ : ∃ r, N % o = r := ⟨_, rfl⟩
    rw [hr] at hr0
    have hmod : (N : Int) % (o : Int) = (r : Int) := by rw [← hr]; simp
    have hmodt : (N : Int).tmod (o : Int) = (r : Int) := by rw [Int.tmod_eq_emod_of_nonneg (by omega), hmod]
    have hre : ((r : Int) != 0) = true := by simp; omega
    have hrz : ¬ (r : Int) = 0 := by omega
    have HD := Lib.hid (show ¬ o ∣ n - 1 by rw [hN]; exact hd)
    clear hr hd
    go_enter Try.func27, Try.ntmps27
    go_wp2_with fail
    (with_reducible refine HM.out.mono ?_)
    rintro e w' ⟨rfl, hw'⟩
    subst hw'
    go_wp2_with fail
    (with_reducible refine HP.out.mono ?_)
    rintro e w2 ⟨rfl, hw'⟩
    subst hw'
    go_wp2_with fail
    go_ret2
    exact ⟨0, 4, rfl, .inr (.inr (.inl ⟨hpre, by omega, HD.out, rfl, rfl⟩)), Below.refl _ _⟩
  obtain ⟨g0, hg0⟩ := exists_least HPR.out (o := n - 1) (by omega) (Nat.dvd_refl _)
  have hgn := hg0.2.1
  obtain ⟨M, hM⟩ := hd
  have hmod : (N : Int) % (o : Int) = 0 := by rw [hM, Int.natCast_mul]; exact Int.mul_emod_right _ _
  have hmodt : (N : Int).tmod (o : Int) = 0 := by rw [Int.tmod_eq_emod_of_nonneg (by omega), hmod]
  have hquo : (N : Int) / (o : Int) = (M : Int) := by rw [hM, Int.natCast_mul]; exact Int.mul_ediv_cancel_left _ (by omega)
  have hquot : (N : Int).tdiv (o : Int) = (M : Int) := by rw [Int.tdiv_eq_ediv_of_nonneg (by omega), hquo]
  have hMN : M ≤ N := by rw [hM]; exact Nat.le_mul_of_pos_left _ (by omega)
  have HM2 := Lib.hid (show n - 1 = o * M by rw [hN, hM])
  obtain ⟨wv, hwv⟩ : ∃ wv, g0 ^ M % n = wv := ⟨_, rfl⟩
  have hwn : wv < n := by rw [← hwv]; exact Nat.mod_lt _ (by omega)
  have hord : Ordr n wv o := by rw [← hwv]; exact hg0.1.down (by omega) HM2.out
  have hG : ∀ d os, Calls Try.prog 46 #[.int .u32 n] (grow (redrawn w d) os) fun e w'' => e = .returned (.int .u32 (g0 : Int)) ∧ ∃ p : Regrown, w'' = grow (redrawn w p.d) p.os := fun d os => Calls.regrown_of (by
    exact (rgen_any n g0 (grow (redrawn w d) os) hn HPR.out hg0).mono fun e w' h => ⟨h.1, h.2⟩)
  have hW : ∀ d os, Calls Try.prog 43 #[.int .u32 g0, .int .u64 M, .int .u32 n] (grow (redrawn w d) os) fun e w'' => e = .returned (.int .u32 (wv : Int)) ∧ ∃ p : Regrown, w'' = grow (redrawn w p.d) p.os := fun d os => Calls.regrown_of (by
    have h := rpower_any g0 M n (grow (redrawn w d) os) (by omega) (by omega) hf2 hn
    rw [hwv] at h
    exact h.mono fun e w' h => ⟨h.1, by rw [← h.2]; exact Below.refl _ _⟩)
  have HGE := Lib.hid hG
  have HPO := Lib.hid hW
  have HORD := Lib.hid hord
  have hwr1 : IntKind.u32.wrap (N : Int) = (N : Int) := IntWalk.u32_in _ (by omega)
  have hwr2 : IntKind.u64.wrap (M : Int) = (M : Int) := IntWalk.u64_in _ (by omega)
  have hwr3 : IntKind.u32.wrap (M : Int) = (M : Int) := IntWalk.u32_in _ (by omega)
  have ho00 : ¬ o = 0 := ho0
  clear hM hG hW hord hg0 hwv
  go_enter Try.func27, Try.ntmps27
  go_wp2_with fail
  (with_reducible refine HM.out.mono ?_)
  rintro e w' ⟨rfl, hw'⟩
  subst hw'
  go_wp2_with fail
  (with_reducible refine HP.out.mono ?_)
  rintro e w2 ⟨rfl, hw'⟩
  subst hw'
  go_wp2_with fail
  refine wp_region_quiet_below (by kernel_rfl) (by kernel_rfl) ?_
  repeat (quiet_step (first | exact HGE.out _ _ | exact HPO.out _ _))
  refine wpQuiet_nil ?_
  rintro _ ⟨⟨d1, os1⟩, rfl⟩
  have hb3 := below_regrown w d1 os1
  generalize grow (redrawn w d1) os1 = w3 at hb3 ⊢
  have hz3 := hb3.size
  clear hwr1 hwr2 hwr3 HM HP
  go_wp2_with fail
  go_loop [7, 8, 9] (fun L At I => ∃ lv av k k1 : Nat, L = .int .u32 (lv : Int) ∧ At = .int .u32 (av : Int) ∧ I = .int .u32 (k1 : Int) ∧ k1 ≤ k + 1 ∧ k + 1 ≤ k1 ∧ k ≤ o ∧ lv < n ∧ av < n ∧ RI n wv o k lv av) (fun _ _ I => o + 1 - (intOf I).toNat)
  case atStart => exact ⟨wv, 1, 0, 1, rfl, rfl, rfl, by omega, by omega, Nat.zero_le _, hwn, by omega, RI.start HORD.out hwn hf2⟩
  case round =>
    obtain ⟨lv, av, k, k1, rfl, rfl, rfl, hk11, hk12, hko, hlv, hav, hri⟩ := hrel
    have HRI := Lib.hid hri
    clear hri
    by_cases hin : k < o
    · have q5 : decide ((k1 : Int) ≤ (o : Int)) = true := decide_eq_true (by omega)
      obtain ⟨nx, hnx⟩ : ∃ nx, av * wv % n = nx := ⟨_, rfl⟩
      have hnxn : nx < n := by rw [← hnx]; exact Nat.mod_lt _ (by omega)
      obtain ⟨g, hg⟩ : ∃ g, Nat.gcd k1 o = g := ⟨_, rfl⟩
      have hgo : g ≤ o := by rw [← hg]; exact Nat.le_of_dvd (by omega) (Nat.gcd_dvd_right _ _)
      have HKE := Lib.hid (show k1 = k + 1 by omega)
      have HTI := Lib.hid (rtimes_any av wv n w3 (by omega) (by omega) (by omega) hn)
      have HCO := Lib.hid (common_any k1 o w3 (by omega) ho)
      rw [hnx] at HTI
      rw [hg] at HCO
      have HNX := Lib.hid hnx
      have HGG := Lib.hid hg
      clear hnx hg
      by_cases hg1 : g = 1
      · have q6 : ((g : Int) == 1) = true := by subst hg1; rfl
        have HG1 := Lib.hid (show Nat.gcd (k + 1) o = 1 by rw [← HKE.out]; exact HGG.out.trans hg1)
        clear hg1
        by_cases hlt : nx < lv
        · have q7 : decide ((nx : Int) < (lv : Int)) = true := decide_eq_true (by omega)
          have HK := Lib.hid (HRI.out.take HORD.out (by omega) HG1.out (by rw [HNX.out]; exact hlt))
          rw [HNX.out] at HK
          go_wp2_with fail
          (with_reducible refine HTI.out.mono ?_)
          rintro e8 w8 ⟨rfl, hw8⟩
          subst hw8
          go_wp2_with fail
          (with_reducible refine HCO.out.mono ?_)
          rintro e9 w9 ⟨rfl, hw9⟩
          subst hw9
          go_wp2
          go_round
          case rel => exact ⟨nx, nx, k + 1, k1 + 1, rfl, rfl, by go_num, by omega, by omega, hin, hnxn, hnxn, HK.out⟩
          case measure => simp only [intOf]; omega
        · have q7 : decide ((nx : Int) < (lv : Int)) = false := decide_eq_false (by omega)
          have HK := Lib.hid (HRI.out.keep fun _ => by rw [HNX.out]; omega)
          rw [HNX.out] at HK
          go_wp2_with fail
          (with_reducible refine HTI.out.mono ?_)
          rintro e8 w8 ⟨rfl, hw8⟩
          subst hw8
          go_wp2_with fail
          (with_reducible refine HCO.out.mono ?_)
          rintro e9 w9 ⟨rfl, hw9⟩
          subst hw9
          go_wp2
          go_round
          case rel => exact ⟨lv, nx, k + 1, k1 + 1, rfl, rfl, by go_num, by omega, by omega, hin, hlv, hnxn, HK.out⟩
          case measure => simp only [intOf]; omega
      · have q6 : ((g : Int) == 1) = false := by simp; omega
        have HK := Lib.hid (HRI.out.keep fun h => absurd (HGG.out.symm.trans (by rw [HKE.out]; exact h)) hg1)
        rw [HNX.out] at HK
        go_wp2_with fail
        (with_reducible refine HTI.out.mono ?_)
        rintro e8 w8 ⟨rfl, hw8⟩
        subst hw8
        go_wp2_with fail
        (with_reducible refine HCO.out.mono ?_)
        rintro e9 w9 ⟨rfl, hw9⟩
        subst hw9
        go_wp2
        go_round
        case rel => exact ⟨lv, nx, k + 1, k1 + 1, rfl, rfl, by go_num, by omega, by omega, hin, hlv, hnxn, HK.out⟩
        case measure => simp only [intOf]; omega
    · obtain rfl : k = o := by omega
      have HL := Lib.hid (HRI.out.done HPR.out HORD.out)
      have q5 : decide ((k1 : Int) ≤ (k : Int)) = false := decide_eq_false (by omega)
      go_wp2
      go_ret2
      exact ⟨lv, 0, rfl, .inr (.inr (.inr ⟨hpre, by omega, ⟨M, HM2.out⟩, rfl, HL.out⟩)), hb3⟩
end Go.Proofs.Ytigefhlgkmfgmaa
