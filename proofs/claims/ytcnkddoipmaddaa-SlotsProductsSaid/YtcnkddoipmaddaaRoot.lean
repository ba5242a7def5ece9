/- The contract of modular.Root. -/
import Derived.Test.YtcnkddoipmaddaaFacP
import Derived.Test.YtcnkddoipmaddaaPrimeP
import Derived.Test.YtcnkddoipmaddaaRInv
import Derived.Test.YtcnkddoipmaddaaApart
namespace Go.Proofs.Ytcnkddoipmaddaa
open Go.RowKit
set_option linter.unusedVariables false

def RootPre (o n : Nat) : Prop := 2 ≤ n ∧ n ≤ 2147483647 ∧ Mr.Pr n ∧ 0 < o
def RootR (o n v E : Nat) : Prop := (¬ RootPre o n ∧ v = 0 ∧ E = 2) ∨ (RootPre o n ∧ 65536 < o ∧ v = 0 ∧ E = 3) ∨ (RootPre o n ∧ o ≤ 65536 ∧ ¬ o ∣ n - 1 ∧ v = 0 ∧ E = 4) ∨ (RootPre o n ∧ o ≤ 65536 ∧ o ∣ n - 1 ∧ E = 0 ∧ Least n o v)
def RetRoot (w : World) (o n : Nat) (e : Ending) (w' : World) : Prop := ∃ v E : Nat, e = .returned (.tuple #[.int .u32 (v : Int), .int .i64 (E : Int)]) ∧ RootR o n v E ∧ Below w.heap.size w w'

/-- some power has the order -/
theorem exists_start {n o M : Nat} (hp : Mr.Pr n) (ho : 0 < o) (hM : n - 1 = o * M) : ∃ a, 1 ≤ a ∧ a < n ∧ Ordr n (a ^ M % n) o := by
  have hn1 : 0 < n - 1 := by have := hp.1; omega
  obtain ⟨g, hg⟩ := exists_ord hp (n - 1) hn1 (Nat.dvd_refl _)
  have hgn : Ordr n (g % n) (n - 1) := Ordr.modl.2 hg
  have hM0 : 0 < M := Nat.pos_of_ne_zero fun h => by rw [h, Nat.mul_zero] at hM; omega
  refine ⟨g % n, ?_, Nat.mod_lt _ hp.pos, Ordr.modl.2 ⟨ho, U.pow.2 (by rw [Nat.mul_comm, ← hM]; exact hgn.2.1), fun e he => ?_⟩⟩
  · rcases Nat.eq_zero_or_pos (g % n) with h | h
    · exfalso
      have h1 := U.coprime hp hn1 hgn.2.1
      rw [h, Nat.gcd_zero_right] at h1
      have := hp.1
      omega
    · exact h
  · have h1 := hgn.2.2 _ (U.pow.1 he)
    rw [hM, Nat.mul_comm o] at h1
    exact Nat.dvd_of_mul_dvd_mul_left hM0 h1
theorem start_U {n o M a : Nat} (hp : Mr.Pr n) (hM : n - 1 = o * M) (ha : 1 ≤ a) (han : a < n) : Mr.U n (a ^ M % n) o :=
  U.modl.2 (U.pow.2 (by rw [Nat.mul_comm, ← hM]; exact Mr.flt hp fun h => by have := Nat.le_of_dvd (by omega) h; omega))

/-- no prime of the order divides k -/
theorem apart_gcd {o k : Nat} {l : List (Nat × Nat)} (hf : FacTo o (o + 1) l) (ho : 0 < o) : apB k l = true ↔ Nat.gcd k o = 1 := by
  constructor
  · intro h
    rcases Nat.lt_or_ge 1 (Nat.gcd k o) with h1 | h1
    · exfalso
      obtain ⟨q, hq, hqd⟩ := Mr.exists_prime_dvd _ h1
      obtain ⟨j, y, h2, h3⟩ := fac_all hf ho hq (Nat.dvd_trans hqd (Nat.gcd_dvd_right k o))
      have h4 := apB_no (k := k) h2 (by rw [h3]; exact Nat.dvd_trans hqd (Nat.gcd_dvd_left k o))
      rw [h4] at h
      cases h
    · have := Nat.gcd_pos_of_pos_right k ho
      omega
  · intro h
    refine apB_yes fun i x hi hd => ?_
    obtain ⟨h1, h2⟩ := fac_prime hf (List.mem_of_getElem? hi)
    have h3 := Nat.dvd_gcd hd h2
    rw [h] at h3
    have := Nat.le_of_dvd Nat.one_pos h3
    have := h1.1
    omega
theorem Pw.below {w w' : World} {lo hi B : Nat} {A : Option Addr} {l : List (Nat × Nat)} (h : Pw w lo hi A l) (hb : Below B w w') (hhi : hi ≤ B) : Pw w' lo hi A l := fun hne => by
  obtain ⟨b, h1, h2, h3, h4⟩ := h hne
  exact ⟨b, h1, h2, h3, fun i x hx => ⟨(hb.cell (p := ⟨b, i * 2, none⟩) (by show b < B; omega)).trans (h4 i x hx).1, (hb.cell (p := ⟨b, i * 2 + 1, none⟩) (by show b < B; omega)).trans (h4 i x hx).2⟩⟩
/-- the state of the search for the least one: the first k powers are done -/
def LI (n w o k lv av : Nat) : Prop := Ordr n lv o ∧ lv < n ∧ w ^ k % n = av ∧ ∀ j, j < k → Nat.gcd j o = 1 → lv ≤ w ^ j % n
theorem LI.keep {n w o k lv av : Nat} (h : LI n w o k lv av) (hk : Nat.gcd k o = 1 → lv ≤ av) : LI n w o (k + 1) lv (av * w % n) := by
  obtain ⟨h1, h2, h3, h4⟩ := h
  refine ⟨h1, h2, by rw [Nat.pow_succ, ← h3, Nat.mod_mul_mod], fun j hj hg => ?_⟩
  rcases Nat.lt_or_ge j k with h5 | h5
  · exact h4 j h5 hg
  · obtain rfl : j = k := by omega
    rw [h3]
    exact hk hg
theorem LI.take {n w o k lv av : Nat} (h : LI n w o k lv av) (hw : Ordr n w o) (hn : 0 < n) (hk : Nat.gcd k o = 1) (hlt : av < lv) : LI n w o (k + 1) av (av * w % n) := by
  obtain ⟨h1, h2, h3, h4⟩ := h
  refine ⟨by rw [← h3]; exact hw.pow hk, by omega, by rw [Nat.pow_succ, ← h3, Nat.mod_mul_mod], fun j hj hg => ?_⟩
  rcases Nat.lt_or_ge j k with h5 | h5
  · have := h4 j h5 hg
    omega
  · obtain rfl : j = k := by omega
    omega
theorem LI.start {n w o : Nat} (hw : Ordr n w o) (hlt : w < n) (hn : 2 ≤ n) : LI n w o 0 w 1 := ⟨hw, hlt, by rw [Nat.pow_zero]; exact Nat.mod_eq_of_lt hn, fun j hj => absurd hj (Nat.not_lt_zero j)⟩
theorem LI.done {n w o lv av : Nat} (h : LI n w o o lv av) (hp : Mr.Pr n) (hw : Ordr n w o) : Least n o lv := least_of hp hw h.1 h.2.1 h.2.2.2
def msr2 (a b : Int) : Nat := if a = 0 then 4294967297 - b.toNat else 0

set_option maxRecDepth 100000 in
set_option maxHeartbeats 4000000 in
theorem root_any (o n : Nat) (w : World) (hn : n ≤ 4294967295) (ho : o ≤ 4294967295) :
    Calls Try.prog 46 #[.int .u32 o, .int .u32 n] w (RetRoot w o n) := by
  have HFIT := Lib.hid (fits_any n 0 0 none (fun _ => 0) w 0 0 (Sq.nil _ _ _ _ _) (by omega))
  by_cases hf : 2 ≤ n ∧ n ≤ 2147483647
  rotate_left
  · have hff : fitsB n 0 (fun _ => 0) = false := by
      rw [fitsB_all fun j h => absurd h (Nat.not_lt_zero j)]
      by_cases h : 2 ≤ n
      · have : ¬ n ≤ 2147483647 := fun h2 => hf ⟨h, h2⟩
        simp [this]
      · simp [h]
    rw [hff] at HFIT
    go_enter Try.func46, Try.ntmps46
    go_wp2_with fail
    refine HFIT.out.mono ?_
    rintro e w' ⟨rfl, hw'⟩
    subst hw'
    go_wp2_with fail
    go_ret2
    exact ⟨0, 2, rfl, .inl ⟨fun h => hf ⟨h.1, h.2.1⟩, rfl, rfl⟩, Below.refl _ _⟩
  have hff : fitsB n 0 (fun _ => 0) = true := by
    rw [fitsB_all fun j h => absurd h (Nat.not_lt_zero j)]
    simp [hf.1, hf.2]
  rw [hff] at HFIT
  obtain ⟨hf2, hf3⟩ := hf
  have HP := Lib.hid (prime_any n w hn)
  cases hpr : prB n
  · rw [hpr] at HP
    have hnp : ¬ Mr.Pr n := fun h => by rw [prB_yes h] at hpr; cases hpr
    have HNP := Lib.hid hnp
    clear hpr hnp hff
    go_enter Try.func46, Try.ntmps46
    go_wp2_with fail
    refine HFIT.out.mono ?_
    rintro e w' ⟨rfl, hw'⟩
    subst hw'
    go_wp2_with fail
    refine HP.out.mono ?_
    rintro e w2 ⟨rfl, hb2⟩
    go_wp2_with fail
    go_ret2
    exact ⟨0, 2, rfl, .inl ⟨fun h => HNP.out h.2.2.1, rfl, rfl⟩, hb2⟩
  rw [hpr] at HP
  have hprime := prB_true.1 hpr
  have HPR := Lib.hid hprime
  clear hpr hprime hff
  by_cases ho0 : o = 0
  · have q1 : ((o : Int) == 0) = true := by subst ho0; rfl
    have HO := Lib.hid ho0
    clear ho0
    go_enter Try.func46, Try.ntmps46
    go_wp2_with fail
    refine HFIT.out.mono ?_
    rintro e w' ⟨rfl, hw'⟩
    subst hw'
    go_wp2_with fail
    refine HP.out.mono ?_
    rintro e w2 ⟨rfl, hb2⟩
    go_wp2_with fail
    go_ret2
    exact ⟨0, 2, rfl, .inl ⟨fun h => by have := h.2.2.2; have := HO.out; omega, rfl, rfl⟩, hb2⟩
  have q1 : ((o : Int) == 0) = false := by simp; omega
  have hpre : RootPre o n := ⟨hf2, hf3, HPR.out, by omega⟩
  by_cases ho1 : 65536 < o
  · have q2 : decide ((o : Int) > 65536) = true := decide_eq_true (by omega)
    go_enter Try.func46, Try.ntmps46
    go_wp2_with fail
    refine HFIT.out.mono ?_
    rintro e w' ⟨rfl, hw'⟩
    subst hw'
    go_wp2_with fail
    refine HP.out.mono ?_
    rintro e w2 ⟨rfl, hb2⟩
    go_wp2_with fail
    go_ret2
    exact ⟨0, 3, rfl, .inr (.inl ⟨hpre, ho1, rfl, rfl⟩), hb2⟩
  have q2 : decide ((o : Int) > 65536) = false := decide_eq_false (by omega)
  obtain ⟨N, hN⟩ : ∃ N, n - 1 = N := ⟨_, rfl⟩
  have hNi : (n : Int) - 1 = (N : Int) := by omega
  by_cases hd : o ∣ N
  rotate_left
  · have hr0 : 0 < N % o := Nat.pos_of_ne_zero fun h => hd (Nat.dvd_of_mod_eq_zero h)
    obtain ⟨r, hr⟩ : ∃ r, N % o = r := ⟨_, rfl⟩
    rw [hr] at hr0
    have hmod : (N : Int) % (o : Int) = (r : Int) := by rw [← hr]; simp
    have hmodt : (N : Int).tmod (o : Int) = (r : Int) := by rw [Int.tmod_eq_emod_of_nonneg (by omega), hmod]
    have hre : ((r : Int) != 0) = true := by simp; omega
    have hrz : ¬ (r : Int) = 0 := by omega
    have HD := Lib.hid (show ¬ o ∣ n - 1 by rw [hN]; exact hd)
    clear hr hd
    go_enter Try.func46, Try.ntmps46
    go_wp2_with fail
    refine HFIT.out.mono ?_
    rintro e w' ⟨rfl, hw'⟩
    subst hw'
    go_wp2_with fail
    refine HP.out.mono ?_
    rintro e w2 ⟨rfl, hb2⟩
    go_wp2_with fail
    go_ret2
    exact ⟨0, 4, rfl, .inr (.inr (.inl ⟨hpre, by omega, HD.out, rfl, rfl⟩)), hb2⟩
  obtain ⟨M, hM⟩ := hd
  have hmod : (N : Int) % (o : Int) = 0 := by rw [hM, Int.natCast_mul]; exact Int.mul_emod_right _ _
  have hmodt : (N : Int).tmod (o : Int) = 0 := by rw [Int.tmod_eq_emod_of_nonneg (by omega), hmod]
  have hquo : (N : Int) / (o : Int) = (M : Int) := by rw [hM, Int.natCast_mul]; exact Int.mul_ediv_cancel_left _ (by omega)
  have hquot : (N : Int).tdiv (o : Int) = (M : Int) := by rw [Int.tdiv_eq_ediv_of_nonneg (by omega), hquo]
  have hMN : M ≤ N := by rw [hM]; exact Nat.le_mul_of_pos_left _ (by omega)
  have HM := Lib.hid (show n - 1 = o * M by rw [hN, hM])
  clear hM
  go_enter Try.func46, Try.ntmps46
  go_wp2_with fail
  refine HFIT.out.mono ?_
  rintro e w' ⟨rfl, hw'⟩
  subst hw'
  go_wp2_with fail
  refine HP.out.mono ?_
  rintro e w2 ⟨rfl, hb2⟩
  have hz2 := hb2.size
  go_wp2_with fail
  refine (factors_any o w2 ho).mono ?_
  rintro e w3 ⟨A, c, E, l, rfl, hlc, hpw, hfr, hb3'⟩
  have hb3 := hb2.trans (hb3'.mono hz2)
  have hz3 := hb3.size
  rcases hfr with ⟨h0, _⟩ | ⟨hN0, rfl, hfac, hl40⟩
  · omega
  have HPW := Lib.hid hpw
  have HFAC := Lib.hid hfac
  clear hpw hfac hb3' HFIT HP
  go_wp2_with fail
  obtain ⟨a0, ha1, ha2, ha3⟩ := exists_start HPR.out (by omega) HM.out
  have HA3 := Lib.hid ha3
  have hap : ∀ x ∈ l, 0 < x.1 ∧ x.1 ≤ 4294967295 := fun x hx => by
    obtain ⟨h1, h2⟩ := fac_prime HFAC.out hx
    have := Nat.le_of_dvd hN0 h2
    exact ⟨h1.pos, by omega⟩
  have HAP := Lib.hid hap
  clear ha3 hap
  go_loopw [8, 9] (fun Wv Av wr => ∃ wv a : Nat, Wv = .int .u32 (wv : Int) ∧ Av = .int .u32 (a : Int) ∧ 1 ≤ a ∧ a ≤ n ∧ (wv = 0 ∧ a ≤ a0 ∨ wv ≠ 0 ∧ wv < n ∧ Ordr n wv o) ∧ Below w3.heap.size w3 wr) (fun Wv Av _ => msr2 (intOf Wv) (intOf Av))
  case atStart => exact ⟨0, 1, rfl, rfl, Nat.le_refl _, by omega, .inl ⟨rfl, ha1⟩, Below.refl _ _⟩
  case round =>
    obtain ⟨wv, a, rfl, rfl, hage, hale, hor, hbl⟩ := hrel
    have hzr := hbl.size
    rcases hor with ⟨hw0, haa⟩ | ⟨hw0, hwn, hord⟩
    · have q3 : ((wv : Int) == 0) = true := by subst hw0; rfl
      have HW0 := Lib.hid hw0
      clear hw0
      obtain ⟨xv, hxv⟩ : ∃ xv, a ^ M % n = xv := ⟨_, rfl⟩
      have hxn : xv < n := by rw [← hxv]; exact Nat.mod_lt _ (by omega)
      have HXV := Lib.hid hxv
      have HPOW := Lib.hid (power_p a M n wr (by omega) (by omega) hf2 hn)
      rw [hxv] at HPOW
      clear hxv
      go_wp2_with fail
      refine HPOW.out.mono ?_
      rintro e w4 ⟨rfl, hb4'⟩
      have hb4 := hbl.trans (hb4'.mono hzr)
      have hz4 := hb4.size
      clear hb4' HPOW
      go_wp2_with fail
      go_loopw [11, 59] (fun G I wr2 => ∃ (i : Nat) (g : Bool), I = .int .i64 (i : Int) ∧ i ≤ l.length ∧ G = .bool g ∧ TI n o l xv i g ∧ Below w3.heap.size w3 wr2) (fun _ I _ => l.length - (intOf I).toNat)
      case atStart => exact ⟨0, true, rfl, Nat.zero_le _, rfl, TI.start _ _ _ _, hb4⟩
      case round =>
        clear hb4 hz4
        obtain ⟨i, g, rfl, hil, rfl, hti, hbl2⟩ := hrel
        have HTI := Lib.hid hti
        have hz5 := hbl2.size
        clear hti
        by_cases hin : i < l.length
        · obtain ⟨b, rfl, hb1, hb2', hcell⟩ := HPW.out (by intro e; rw [e] at hin; exact absurd hin (Nat.not_lt_zero i))
          obtain ⟨x, hx⟩ : ∃ x, l[i]? = some x := ⟨l[i], List.getElem?_eq_getElem hin⟩
          obtain ⟨k1, k2⟩ := hcell i x hx
          have k1 := (hbl2.cell (p := ⟨b, i * 2, none⟩) hb2').trans k1
          have k2 := (hbl2.cell (p := ⟨b, i * 2 + 1, none⟩) hb2').trans k2
          obtain ⟨hqp, hqN⟩ := fac_prime HFAC.out (List.mem_of_getElem? hx)
          have hq2 := hqp.1
          have hqle := Nat.le_of_dvd hN0 hqN
          have HXX := Lib.hid hx
          obtain ⟨c', hc'⟩ := hqN
          clear hcell hx hqp
          obtain ⟨q, e⟩ := x
          simp only at k1 k2 hq2 hqle hc'
          have hq0 : ¬ q = 0 := by omega
          have hquo2 : (o : Int) / (q : Int) = (c' : Int) := by rw [hc', Int.natCast_mul]; exact Int.mul_ediv_cancel_left _ (by omega)
          have hquot2 : (o : Int).tdiv (q : Int) = (c' : Int) := by rw [Int.tdiv_eq_ediv_of_nonneg (by omega), hquo2]
          have hco : c' ≤ o := by rw [hc']; exact Nat.le_mul_of_pos_left _ (by omega)
          have hdiv : o / q = c' := by rw [hc', Nat.mul_div_cancel_left _ (by omega)]
          have HDIV := Lib.hid hdiv
          have hbn := hbl2.alloc hz5 (.cells #[.int .u32 (q : Int), .int .i64 (e : Int)] 90)
          have hzn := hbn.size
          clear hc' hdiv
          cases g
          · go_wp2_with fail
            go_roundw
            case rel => exact ⟨i + 1, false, by go_num, hin, rfl, HTI.out.keep, hbn⟩
            case measure => simp only [intOf]; omega
          · obtain ⟨pv, hpv⟩ : ∃ pv, xv ^ c' % n = pv := ⟨_, rfl⟩
            have hpvn : pv < n := by rw [← hpv]; exact Nat.mod_lt _ (by omega)
            have HPV := Lib.hid hpv
            have HPOW := Lib.hid (fun V => power_p xv c' n V (by omega) (by omega) hf2 hn)
            rw [hpv] at HPOW
            clear hpv
            go_wp2_with fail
            refine (HPOW.out _).mono ?_
            rintro e6 w6 ⟨rfl, hb6⟩
            have hb36 := hbn.trans (hb6.mono hzn)
            by_cases hu : pv = 1
            · have q4 : ((pv : Int) != 1) = false := by subst hu; rfl
              have HNX := Lib.hid (HTI.out.next (g := false) HXX.out hf2 (by show xv ^ (o / q) % n = pv; rw [HDIV.out]; exact HPV.out) (by simp [hu]))
              clear hu
              go_wp2
              go_roundw
              case rel => exact ⟨i + 1, false, by go_num, hin, rfl, HNX.out, hb36⟩
              case measure => simp only [intOf]; omega
            · have q4 : ((pv : Int) != 1) = true := by simp; omega
              have HNX := Lib.hid (HTI.out.next (g := true) HXX.out hf2 (by show xv ^ (o / q) % n = pv; rw [HDIV.out]; exact HPV.out) (by simp [hu]))
              clear hu
              go_wp2
              go_roundw
              case rel => exact ⟨i + 1, true, by go_num, hin, rfl, HNX.out, hb36⟩
              case measure => simp only [intOf]; omega
        · obtain rfl : i = l.length := by omega
          cases g
          · have hna : a ≠ a0 := fun h => HTI.out.bad HFAC.out (by rw [← HXV.out, h]; exact HA3.out)
            go_wp2
            go_roundw
            case rel => exact ⟨wv, a + 1, rfl, by go_num, by omega, by omega, .inl ⟨HW0.out, by omega⟩, hbl2⟩
            case measure =>
              rw [HW0.out]
              show 4294967297 - _ < 4294967297 - _
              simp only [intOf]
              omega
          · have hux : Mr.U n xv o := by rw [← HXV.out]; exact start_U HPR.out HM.out hage (by omega)
            have hox := HTI.out.good HFAC.out (by omega) hux
            have hx0 : xv ≠ 0 := fun h => by
              have h1 := U.coprime HPR.out (by omega) hux
              rw [h, Nat.gcd_zero_right] at h1
              omega
            have HOX := Lib.hid (And.intro hx0 hox)
            have hms : msr2 (xv : Int) ((a : Int) + 1) < msr2 (wv : Int) (a : Int) := by
              rw [HW0.out]
              unfold msr2
              rw [if_neg (by omega)]
              show 0 < 4294967297 - _
              omega
            clear hux hox hx0
            go_wp2
            go_roundw
            case rel => exact ⟨xv, a + 1, rfl, by go_num, by omega, by omega, .inr ⟨HOX.out.1, hxn, HOX.out.2⟩, hbl2⟩
            case measure => exact hms
    · have q3 : ((wv : Int) == 0) = false := by simp; omega
      have HORD := Lib.hid hord
      clear hord
      go_wp2_with fail
      refine (prodf_any n wr hn).mono ?_
      rintro e w5 ⟨rfl, hw5⟩
      have hb5 : Below w3.heap.size w3 w5 := by rw [hw5]; exact hbl.alloc hzr _
      have hc5 : w5.cell? ⟨wr.heap.size, 0, none⟩ = some (.int .u64 (n : Int)) := by rw [hw5, World.cell?_alloc_new]; rfl
      have hz5 : wr.heap.size < w5.heap.size := by rw [hw5, World.size_alloc]; omega
      clear hw5
      go_wp2_with fail
      have HPW3 := Lib.hid (HPW.out.below hb5 (Nat.le_refl _))
      clear HPW
      obtain ⟨wo, rfl⟩ : ∃ wo : World, wo = wr := ⟨_, rfl⟩
      go_loopw [15, 16, 82] (fun L At I wr2 => ∃ lv av k : Nat, L = .int .u32 (lv : Int) ∧ At = .int .u32 (av : Int) ∧ I = .int .u32 (k : Int) ∧ k ≤ o ∧ lv < n ∧ av < n ∧ LI n wv o k lv av ∧ Below w5.heap.size w5 wr2) (fun _ _ I _ => o - (intOf I).toNat)
      case atStart => exact ⟨wv, 1, 0, rfl, rfl, rfl, Nat.zero_le _, hwn, by omega, LI.start HORD.out hwn hf2, Below.refl _ _⟩
      case round =>
        obtain ⟨lv, av, k, rfl, rfl, rfl, hko, hlv, hav, hli, hbl2⟩ := hrel
        have HLI := Lib.hid hli
        have hz7 := hbl2.size
        have hz53 := hb5.size
        have hb7 := hb5.trans (hbl2.mono hz53)
        clear hli
        by_cases hin : k < o
        · have q5 : decide ((k : Int) < (o : Int)) = true := decide_eq_true (by omega)
          obtain ⟨nx, hnx⟩ : ∃ nx, av * wv % n = nx := ⟨_, rfl⟩
          have hnxn : nx < n := by rw [← hnx]; exact Nat.mod_lt _ (by omega)
          have HNX := Lib.hid hnx
          clear hnx
          have HMU := Lib.hid (fun (V : World) (hV : Below w5.heap.size w5 V) => mulm_any av wv n wo.heap.size V (by omega) (by omega) (by omega) (by omega) ((hV.cell (p := ⟨wo.heap.size, 0, none⟩) hz5).trans hc5))
          rw [HNX.out] at HMU
          by_cases hlt : av < lv
          · have q6 : decide ((av : Int) < (lv : Int)) = true := decide_eq_true (by omega)
            have HAPT := Lib.hid (apart_any k c A l wr _ _ (HPW3.out.below hbl2 hz53) (by omega) hl40 HAP.out (by omega))
            cases hap : apB k l
            · have hng : ¬ Nat.gcd k o = 1 := fun h => by rw [(apart_gcd HFAC.out (by omega)).2 h] at hap; cases hap
              have HK := Lib.hid (HLI.out.keep fun h => absurd h hng)
              rw [hap] at HAPT
              rw [HNX.out] at HK
              clear hap hng
              go_wp2_with fail
              (with_reducible refine HAPT.out.mono ?_)
              rintro e8 w8 ⟨rfl, hb8'⟩
              have hb8 := hbl2.trans (hb8'.mono hz7)
              clear hb8'
              go_wp2_with fail
              (with_reducible refine (HMU.out w8 hb8).mono ?_)
              rintro e9 w9 ⟨rfl, hw9⟩
              subst hw9
              go_wp2
              go_roundw
              case rel => exact ⟨lv, nx, k + 1, rfl, rfl, by go_num, hin, hlv, hnxn, HK.out, hb8⟩
              case measure => simp only [intOf]; omega
            · have hg := (apart_gcd (k := k) HFAC.out (by omega)).1 hap
              have HK := Lib.hid (HLI.out.take HORD.out (by omega) hg hlt)
              rw [hap] at HAPT
              rw [HNX.out] at HK
              clear hap hg
              go_wp2_with fail
              (with_reducible refine HAPT.out.mono ?_)
              rintro e8 w8 ⟨rfl, hb8'⟩
              have hb8 := hbl2.trans (hb8'.mono hz7)
              clear hb8'
              go_wp2_with fail
              (with_reducible refine (HMU.out w8 hb8).mono ?_)
              rintro e9 w9 ⟨rfl, hw9⟩
              subst hw9
              go_wp2
              go_roundw
              case rel => exact ⟨av, nx, k + 1, rfl, rfl, by go_num, hin, hav, hnxn, HK.out, hb8⟩
              case measure => simp only [intOf]; omega
          · have q6 : decide ((av : Int) < (lv : Int)) = false := decide_eq_false (by omega)
            have HK := Lib.hid (HLI.out.keep fun _ => by omega)
            rw [HNX.out] at HK
            go_wp2_with fail
            (with_reducible refine (HMU.out wr hbl2).mono ?_)
            rintro e9 w9 ⟨rfl, hw9⟩
            subst hw9
            go_wp2
            go_roundw
            case rel => exact ⟨lv, nx, k + 1, rfl, rfl, by go_num, hin, hlv, hnxn, HK.out, hbl2⟩
            case measure => simp only [intOf]; omega
        · obtain rfl : k = o := by omega
          have HL := Lib.hid (HLI.out.done HPR.out HORD.out)
          have q5 : decide ((k : Int) < (k : Int)) = false := decide_eq_false (by omega)
          go_wp2
          go_ret2
          exact ⟨lv, 0, rfl, .inr (.inr (.inr ⟨hpre, by omega, ⟨M, HM.out⟩, rfl, HL.out⟩)), hb3.trans (hb7.mono hz3)⟩
end Go.Proofs.Ytcnkddoipmaddaa
