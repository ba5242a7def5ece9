/- The contracts of modular.Order and of the reference's Order. -/
import Derived.Test.YtigefhlgkmfgmaaRFactors
import Derived.Test.YtigefhlgkmfgmaaOrd
import Derived.Test.YtigefhlgkmfgmaaPrimeP
import Derived.Test.YtigefhlgkmfgmaaFits
namespace Go.Proofs.Ytigefhlgkmfgmaa
open Go.RowKit
set_option linter.unusedVariables false

def OrdOk (a n : Nat) : Prop := 2 ≤ n ∧ n ≤ 2147483647 ∧ 0 < a ∧ a < n ∧ Mr.Pr n
def RetOrd (w : World) (a n : Nat) (e : Ending) (w' : World) : Prop :=
  ∃ m E : Nat, e = .returned (.tuple #[.int .u32 (m : Int), .int .i64 (E : Int)]) ∧ (¬ OrdOk a n ∧ m = 0 ∧ E = 2 ∨ OrdOk a n ∧ E = 0 ∧ Ordr n a m) ∧ Below w.heap.size w w'
theorem RetOrd.bad {w w' : World} {a n : Nat} (h : ¬ OrdOk a n) (hb : Below w.heap.size w w') : RetOrd w a n (.returned (.tuple #[.int .u32 0, .int .i64 2])) w' := ⟨0, 2, rfl, .inl ⟨h, rfl, rfl⟩, hb⟩

/-- the state of the search for an order: m is a multiple of it, the first i primes are done -/
def OI (n a N : Nat) (l : List (Nat × Nat)) (i m : Nat) : Prop := 0 < m ∧ m ∣ N ∧ Mr.U n a m ∧ ∀ (j : Nat) (x : Nat × Nat), j < i → l[j]? = some x → ¬ (x.1 ∣ m ∧ Mr.U n a (m / x.1))
theorem fac_prime {N : Nat} {l : List (Nat × Nat)} (h : FacTo N (N + 1) l) {x : Nat × Nat} (hx : x ∈ l) : Mr.Pr x.1 ∧ x.1 ∣ N := by
  have h1 : x.1 ∈ prms N (N + 1) := by rw [← h.1]; exact List.mem_map.2 ⟨x, hx, rfl⟩
  exact (prms_mem.1 h1).2
theorem fac_all {N q : Nat} {l : List (Nat × Nat)} (h : FacTo N (N + 1) l) (hN : 0 < N) (hq : Mr.Pr q) (hd : q ∣ N) : ∃ (j : Nat) (x : Nat × Nat), l[j]? = some x ∧ x.1 = q := by
  have h1 : q ∈ prms N (N + 1) := prms_mem.2 ⟨by have := Nat.le_of_dvd hN hd; omega, hq, hd⟩
  rw [← h.1] at h1
  obtain ⟨x, hx, hxq⟩ := List.mem_map.1 h1
  obtain ⟨j, hj⟩ := List.getElem?_of_mem hx
  exact ⟨j, x, hj, hxq⟩
theorem OI.down {n a N i m q c : Nat} {l : List (Nat × Nat)} (h : OI n a N l i m) (hm : m = q * c) (hc : 0 < c) (hl : ∀ x ∈ l, 2 ≤ x.1) (hu : Mr.U n a c) : OI n a N l i c := by
  refine ⟨hc, Nat.dvd_trans ⟨q, by rw [hm, Nat.mul_comm]⟩ h.2.1, hu, fun j x h1 h2 h3 => h.2.2.2 j x h1 h2 ?_⟩
  have h4 := hl x (List.mem_of_getElem? h2)
  obtain ⟨⟨d, hd⟩, h5⟩ := h3
  have e : m = x.1 * (q * d) := by rw [hm, hd, Nat.mul_left_comm]
  refine ⟨⟨_, e⟩, ?_⟩
  rw [hd, Nat.mul_div_cancel_left _ (by omega)] at h5
  rw [e, Nat.mul_div_cancel_left _ (by omega)]
  exact h5.dvd (Nat.dvd_mul_left d q)
theorem OI.next {n a N i m : Nat} {l : List (Nat × Nat)} {x : Nat × Nat} (h : OI n a N l i m) (hx : l[i]? = some x) (hn : ¬ (x.1 ∣ m ∧ Mr.U n a (m / x.1))) : OI n a N l (i + 1) m :=
  ⟨h.1, h.2.1, h.2.2.1, fun j y h1 h2 => by
    rcases Nat.lt_or_ge j i with h3 | h3
    · exact h.2.2.2 j y h3 h2
    · obtain rfl : j = i := by omega
      rw [hx] at h2
      injection h2 with h2
      rw [← h2]
      exact hn⟩
theorem OI.ordr {n a N m : Nat} {l : List (Nat × Nat)} (h : OI n a N l l.length m) (hf : FacTo N (N + 1) l) (hN : 0 < N) : Ordr n a m :=
  ordr_of h.1 h.2.2.1 fun q hq hd hu => by
    obtain ⟨j, x, h1, h2⟩ := fac_all hf hN hq (Nat.dvd_trans hd h.2.1)
    subst h2
    exact h.2.2.2 j x (List.getElem?_eq_some_iff.1 h1).1 h1 ⟨hd, hu⟩

set_option maxRecDepth 100000 in
set_option maxHeartbeats 2000000 in
theorem order_any (a n : Nat) (w : World) (hn : n ≤ 4294967295) (ha : a ≤ 4294967295) :
    Calls Try.prog 24 #[.int .u32 a, .int .u32 n] w (RetOrd w a n) := by
  have hsq : ∀ o, o = Obj.cells #[Value.int .u32 (a : Nat)] 22 → Sq .u32 (w.alloc o) 0 (w.heap.size + 1) (some ⟨w.heap.size, 0, none⟩) 1 (oneF a) := fun o ho => by subst ho; exact sq_one rfl (Nat.zero_le _) (Nat.lt_succ_self _)
  have hfit := fits_any n 1 1 _ (oneF a) _ 0 _ (hsq _ rfl) (by omega)
  have hbel := (Below.refl w.heap.size w).alloc (Nat.le_refl _) (Obj.cells #[Value.int .u32 (a : Nat)] 22)
  by_cases hf : a < n ∧ 2 ≤ n ∧ n ≤ 2147483647
  rotate_left
  · have hff : fitsB n 1 (oneF a) = false := by
      cases h : fitsB n 1 (oneF a)
      · rfl
      · exact absurd (fits_one.1 h) hf
    rw [hff] at hfit
    have HT := Lib.hid hfit
    clear hfit hsq
    go_enter Try.func24, Try.ntmps24
    go_wp2_with (go_at_call 40; refine HT.out.mono ?_; rintro e w' ⟨rfl, rfl⟩)
    go_ret2
    exact RetOrd.bad (fun h => hf ⟨h.2.2.2.1, h.1, h.2.1⟩) hbel
  rw [fits_one.2 hf] at hfit
  have HT := Lib.hid hfit
  have HB := Lib.hid hbel
  clear hfit hsq hbel
  obtain ⟨hf1, hf2, hf3⟩ := hf
  by_cases ha0 : a = 0
  · have q1 : ((a : Int) == 0) = true := by subst ha0; rfl
    have HA0 := Lib.hid ha0
    clear ha0
    go_enter Try.func24, Try.ntmps24
    go_wp2_with fail
    refine HT.out.mono ?_
    rintro e w' ⟨rfl, rfl⟩
    go_wp2_with fail
    go_ret2
    exact RetOrd.bad (fun h => by have := h.2.2.1; have := HA0.out; omega) HB.out
  have q1 : ((a : Int) == 0) = false := by simp; omega
  have hz1 := HB.out.size
  have HP := Lib.hid (fun V => prime_any n V hn)
  cases hpr : prB n
  · rw [hpr] at HP
    have hnp : ¬ Mr.Pr n := fun h => by rw [prB_yes h] at hpr; cases hpr
    have HNP := Lib.hid hnp
    clear hpr hnp
    go_enter Try.func24, Try.ntmps24
    go_wp2_with fail
    refine HT.out.mono ?_
    rintro e w' ⟨rfl, rfl⟩
    go_wp2_with fail
    refine (HP.out _).mono ?_
    rintro e w2 ⟨rfl, hb2⟩
    go_wp2_with fail
    go_ret2
    exact RetOrd.bad (fun h => HNP.out h.2.2.2.2) (HB.out.trans (hb2.mono hz1))
  rw [hpr] at HP
  have hprime := prB_true.1 hpr
  have HPR := Lib.hid hprime
  clear hpr hprime
  obtain ⟨N, hN⟩ : ∃ N, n - 1 = N := ⟨_, rfl⟩
  have hNi : (n : Int) - 1 = (N : Int) := by omega
  have HN := Lib.hid hN
  go_enter Try.func24, Try.ntmps24
  go_wp2_with fail
  refine HT.out.mono ?_
  rintro e w' ⟨rfl, rfl⟩
  go_wp2_with fail
  refine (HP.out _).mono ?_
  rintro e w2 ⟨rfl, hb2'⟩
  have hb2 := HB.out.trans (hb2'.mono hz1)
  have hz2 := hb2.size
  clear hb2' HT HB hz1
  go_wp2_with fail
  refine (factors_any N w2 (by omega)).mono ?_
  rintro e w3 ⟨A, c, E, l, rfl, hlc, hpw, hfr, hb3'⟩
  have hb3 := hb2.trans (hb3'.mono hz2)
  have hz3 := hb3.size
  rcases hfr with ⟨h0, _⟩ | ⟨hN0, rfl, hfac, hl40⟩
  · omega
  have HPW := Lib.hid hpw
  have HFAC := Lib.hid hfac
  clear hpw hfac hb3'
  go_wp2_with fail
  have hU0 : Mr.U n a N := by
    rw [← HN.out]
    exact Mr.flt HPR.out fun h => by have := Nat.le_of_dvd (by omega) h; omega
  have HU0 := Lib.hid hU0
  clear hU0
  go_loopw [6, 34] (fun O I wr => ∃ i m : Nat, I = .int .i64 (i : Int) ∧ i ≤ l.length ∧ O = .int .u32 (m : Int) ∧ OI n a N l i m ∧ Below w3.heap.size w3 wr) (fun _ I _ => l.length - (intOf I).toNat)
  case atStart => exact ⟨0, N, rfl, Nat.zero_le _, rfl, ⟨hN0, Nat.dvd_refl N, HU0.out, fun j x h => absurd h (Nat.not_lt_zero j)⟩, Below.refl _ _⟩
  case round =>
    obtain ⟨i, m, rfl, hil, rfl, hoi, hbl⟩ := hrel
    have HOI := Lib.hid hoi
    have hmp := hoi.1
    have hmN := Nat.le_of_dvd hN0 hoi.2.1
    have hzr := hbl.size
    clear hoi
    by_cases hin : i < l.length
    · obtain ⟨b, rfl, hb1, hb2', hcell⟩ := HPW.out (by intro e; rw [e] at hin; exact absurd hin (Nat.not_lt_zero i))
      obtain ⟨x, hx⟩ : ∃ x, l[i]? = some x := ⟨l[i], List.getElem?_eq_getElem hin⟩
      obtain ⟨k1, k2⟩ := hcell i x hx
      have k1 := (hbl.cell (p := ⟨b, i * 2, none⟩) hb2').trans k1
      have k2 := (hbl.cell (p := ⟨b, i * 2 + 1, none⟩) hb2').trans k2
      obtain ⟨hqp, hqN⟩ := fac_prime HFAC.out (List.mem_of_getElem? hx)
      have hq2 := hqp.1
      have hqle := Nat.le_of_dvd hN0 hqN
      have HXX := Lib.hid hx
      clear hcell hx hqp hqN
      obtain ⟨q, e⟩ := x
      simp only at k1 k2 hq2 hqle
      obtain ⟨w4, hw4⟩ : ∃ w4, w4 = wr.alloc (.cells #[.int .u32 (q : Int), .int .i64 (e : Int)] 29) := ⟨_, rfl⟩
      have hb4 : Below w3.heap.size w3 w4 := by rw [hw4]; exact hbl.alloc hzr _
      have hc4 : w4.cell? ⟨wr.heap.size, 0, none⟩ = some (.int .u32 (q : Int)) := by rw [hw4, World.cell?_alloc_new]; rfl
      have hz4 : wr.heap.size < w4.heap.size := by rw [hw4, World.size_alloc]; omega
      have hcw : ∀ V : World, Below w4.heap.size w4 V → V.cell? ⟨wr.heap.size, 0, none⟩ = some (.int .u32 (q : Int)) := fun V h => (h.cell (p := ⟨wr.heap.size, 0, none⟩) hz4).trans hc4
      have HCW := Lib.hid hcw
      clear hcw
      go_wp2_with fail
      rw [← hw4]
      clear hw4 k1 k2
      go_loopw [6] (fun O wr2 => ∃ m : Nat, O = .int .u32 (m : Int) ∧ OI n a N l i m ∧ Below w4.heap.size w4 wr2) (fun O _ => (intOf O).toNat)
      case atStart => exact ⟨m, rfl, HOI.out, Below.refl _ _⟩
      case round =>
        clear HOI hmp hmN
        obtain ⟨m, rfl, hoi, hbl2⟩ := hrel
        have hmp := hoi.1
        have hmN := Nat.le_of_dvd hN0 hoi.2.1
        have hz5 := hbl2.size
        have HOI := Lib.hid hoi
        have hcq := HCW.out _ hbl2
        have hq0 : ¬ q = 0 := by omega
        clear hoi
        by_cases hd : q ∣ m
        · obtain ⟨c', hc'⟩ := hd
          have hmod : (m : Int) % (q : Int) = 0 := by rw [hc', Int.natCast_mul]; exact Int.mul_emod_right _ _
          have hmodt : (m : Int).tmod (q : Int) = 0 := by rw [Int.tmod_eq_emod_of_nonneg (by omega), hmod]
          have hquo : (m : Int) / (q : Int) = (c' : Int) := by rw [hc', Int.natCast_mul]; exact Int.mul_ediv_cancel_left _ (by omega)
          have hquot : (m : Int).tdiv (q : Int) = (c' : Int) := by rw [Int.tdiv_eq_ediv_of_nonneg (by omega), hquo]
          have hcp : 0 < c' := Nat.pos_of_ne_zero fun h => by rw [h, Nat.mul_zero] at hc'; omega
          have hcm : c' < m := by have := Nat.mul_le_mul_right c' hq2; omega
          have HC := Lib.hid hc'
          clear hc'
          have hl2 : ∀ x ∈ l, 2 ≤ x.1 := fun x hx => (fac_prime HFAC.out hx).1.1
          obtain ⟨pv, hpv⟩ : ∃ pv, a ^ c' % n = pv := ⟨_, rfl⟩
          have hpvn : pv < n := by rw [← hpv]; exact Nat.mod_lt _ (by omega)
          have HPV := Lib.hid hpv
          have HPOW := Lib.hid (fun V => power_p a c' n V ha (by omega) hf2 hn)
          rw [hpv] at HPOW
          clear hpv
          go_wp2_with fail
          refine (HPOW.out _).mono ?_
          rintro e6 w6 ⟨rfl, hb6⟩
          have hb46 := hbl2.trans (hb6.mono hz5)
          have hcq6 := HCW.out _ hb46
          by_cases hu : pv = 1
          · have q2 : ((pv : Int) == 1) = true := by subst hu; rfl
            have HU := Lib.hid hu
            clear hu
            go_wp2
            go_roundw
            case rel => exact ⟨c', rfl, HOI.out.down HC.out hcp hl2 (by unfold Mr.U; rw [HPV.out, HU.out, Nat.mod_eq_of_lt hf2]), hb46⟩
            case measure => simp only [intOf]; omega
          · have q2 : ((pv : Int) == 1) = false := by simp; omega
            have hnx : ¬ (q ∣ m ∧ Mr.U n a (m / q)) := fun h => hu (by
              have h1 := h.2
              rw [HC.out, Nat.mul_div_cancel_left _ (by omega)] at h1
              unfold Mr.U at h1
              rw [HPV.out, Nat.mod_eq_of_lt hf2] at h1
              exact h1)
            have HNX := Lib.hid (HOI.out.next HXX.out hnx)
            clear hu hnx
            go_wp2
            go_roundw
            case rel => exact ⟨i + 1, m, by go_num, hin, rfl, HNX.out, hb4.trans (hb46.mono (by omega))⟩
            case measure => simp only [intOf]; omega
        · have hr0 : 0 < m % q := Nat.pos_of_ne_zero fun h => hd (Nat.dvd_of_mod_eq_zero h)
          obtain ⟨r, hr⟩ : ∃ r, m % q = r := ⟨_, rfl⟩
          rw [hr] at hr0
          have hmod : (m : Int) % (q : Int) = (r : Int) := by rw [← hr]; simp
          have hmodt : (m : Int).tmod (q : Int) = (r : Int) := by rw [Int.tmod_eq_emod_of_nonneg (by omega), hmod]
          have hre : ((r : Int) == 0) = false := by simp; omega
          have hrz : ¬ (r : Int) = 0 := by omega
          have HNX := Lib.hid (HOI.out.next HXX.out fun h => hd h.1)
          clear hr
          go_wp2
          go_roundw
          case rel => exact ⟨i + 1, m, by go_num, hin, rfl, HNX.out, hb4.trans (hbl2.mono (by omega))⟩
          case measure => simp only [intOf]; omega
    · obtain rfl : i = l.length := by omega
      have hod := HOI.out.ordr HFAC.out hN0
      have HOD := Lib.hid hod
      clear hod
      go_wp2
      go_ret2
      exact ⟨m, 0, rfl, .inr ⟨⟨hf2, hf3, by omega, hf1, HPR.out⟩, rfl, HOD.out⟩, hb3.trans (hbl.mono hz3)⟩
end Go.Proofs.Ytigefhlgkmfgmaa
