/- The contracts of both Generator. -/
import Derived.Test.YthepdpfiahcfmaaRGen
import Derived.Test.YthepdpfiahcfmaaMPow
import Derived.Test.YthepdpfiahcfmaaFind
namespace Go.Proofs.Ythepdpfiahcfmaa
open Go.RowKit Go.Sort
set_option linter.unusedVariables false

def GenR (p v E : Nat) : Prop := (¬ (p ≤ 2147483647 ∧ Mr.Pr p) ∧ v = 0 ∧ E = 2) ∨ ((p ≤ 2147483647 ∧ Mr.Pr p) ∧ Least p (p - 1) v ∧ E = 0)
theorem GenR.uniq {p v E v' E' : Nat} (h : GenR p v E) (h' : GenR p v' E') : v' = v ∧ E' = E := by
  rcases h with ⟨h1, rfl, rfl⟩ | ⟨h1, h2, rfl⟩ <;> rcases h' with ⟨g1, rfl, rfl⟩ | ⟨g1, g2, rfl⟩
  · exact ⟨rfl, rfl⟩
  · exact absurd g1 h1
  · exact absurd h1 g1
  · exact ⟨g2.uniq h2, rfl⟩

set_option maxRecDepth 100000 in
set_option maxHeartbeats 1000000 in
theorem rgen3_any (p : Nat) (w : World) (hp : p ≤ 4294967295) :
    Calls Try.prog 17 #[.int .u32 p] w (RetF w (GenR p)) := by
  by_cases h1 : p ≤ 2147483647
  · have q1 : decide ((p : Int) > 2147483647) = false := decide_eq_false (by omega)
    have HP := Lib.hid (rprime_any p w hp)
    by_cases h2 : Mr.Pr p
    · rw [prB_yes h2] at HP
      obtain ⟨g, hg⟩ := exists_least h2 (by have := h2.1; omega) (Nat.dvd_refl (p - 1))
      have HG := Lib.hid (rgen_any p g w hp h2 hg)
      have HR : Hid (GenR p g 0) := Lib.hid (.inr ⟨⟨h1, h2⟩, hg, rfl⟩)
      clear h2 hg
      go_enter Try.func17, Try.ntmps17
      go_wp2_with fail
      (with_reducible refine HP.out.mono ?_)
      rintro e w2 ⟨rfl, hw2⟩
      subst hw2
      go_wp2_with fail
      (with_reducible refine HG.out.mono ?_)
      rintro e w3 ⟨rfl, hb3⟩
      go_wp2_with fail
      go_ret2
      exact ⟨g, 0, rfl, HR.out, hb3⟩
    · rw [prB_no h2] at HP
      have HR : Hid (GenR p 0 2) := Lib.hid (.inl ⟨fun h => h2 h.2, rfl, rfl⟩)
      clear h2
      go_enter Try.func17, Try.ntmps17
      go_wp2_with fail
      (with_reducible refine HP.out.mono ?_)
      rintro e w2 ⟨rfl, hw2⟩
      subst hw2
      go_wp2_with fail
      go_ret2
      exact ⟨0, 2, rfl, HR.out, Below.refl _ _⟩
  · have q1 : decide ((p : Int) > 2147483647) = true := decide_eq_true (by omega)
    have HR : Hid (GenR p 0 2) := Lib.hid (.inl ⟨fun h => h1 h.1, rfl, rfl⟩)
    go_enter Try.func17, Try.ntmps17
    go_wp2_with fail
    go_ret2
    exact ⟨0, 2, rfl, HR.out, Below.refl _ _⟩

set_option maxRecDepth 100000 in
set_option maxHeartbeats 4000000 in
theorem pgen_any (n : Nat) (w : World) (hp : n ≤ 4294967295) :
    Calls Try.prog 16 #[.int .u32 n] w (RetF w (GenR n)) := by
  by_cases h1 : n ≤ 2147483647
  rotate_left
  · have q1 : decide ((n : Int) > 2147483647) = true := decide_eq_true (by omega)
    have HR : Hid (GenR n 0 2) := Lib.hid (.inl ⟨fun h => h1 h.1, rfl, rfl⟩)
    go_enter Try.func16, Try.ntmps16
    go_wp2_with fail
    go_ret2
    exact ⟨0, 2, rfl, HR.out, Below.refl _ _⟩
  have q1 : decide ((n : Int) > 2147483647) = false := decide_eq_false (by omega)
  have HP := Lib.hid (prime_any n w hp)
  by_cases h2 : Mr.Pr n
  rotate_left
  · rw [prB_no h2] at HP
    have HR : Hid (GenR n 0 2) := Lib.hid (.inl ⟨fun h => h2 h.2, rfl, rfl⟩)
    clear h2
    go_enter Try.func16, Try.ntmps16
    go_wp2_with fail
    (with_reducible refine HP.out.mono ?_)
    rintro e w2 ⟨rfl, hb2⟩
    go_wp2_with fail
    go_ret2
    exact ⟨0, 2, rfl, HR.out, hb2⟩
  rw [prB_yes h2] at HP
  obtain ⟨g0, hg⟩ := exists_least h2 (by have := h2.1; omega) (Nat.dvd_refl (n - 1))
  have HR : Hid (GenR n g0 0) := Lib.hid (.inr ⟨⟨h1, h2⟩, hg, rfl⟩)
  have hn2 := h2.1
  have hg1 := hg.pos h2
  have hgn := hg.2.1
  have HG := Lib.hid hg
  obtain ⟨N, hN⟩ : ∃ N, n - 1 = N := ⟨_, rfl⟩
  have hNi : (n : Int) - 1 = (N : Int) := by omega
  rw [hN] at HG
  have HFER := Lib.hid (fun g (h1' : 1 ≤ g) (h2' : g < n) => U.fermat h2 h1' h2')
  rw [hN] at HFER
  have hN0 : 0 < N := by omega
  clear h2 hg hN
  go_enter Try.func16, Try.ntmps16
  go_wp2_with fail
  (with_reducible refine HP.out.mono ?_)
  rintro e w2 ⟨rfl, hb2⟩
  have hz2 := hb2.size
  go_wp2_with fail
  (with_reducible refine (factors_any N w2 (by omega)).mono ?_)
  rintro e w3 ⟨A, c, E, l, rfl, hlc, hpw, hfr, hb3'⟩
  have hb3 := hb2.trans (hb3'.mono hz2)
  have hz3 := hb3.size
  rcases hfr with ⟨h0, _⟩ | ⟨_, rfl, hfac, hl40⟩
  · omega
  have HPW := Lib.hid hpw
  have HFAC := Lib.hid hfac
  clear hpw hfac hb3'
  go_wp2_with fail
  go_loopw [6] (fun G wr => ∃ g : Nat, G = .int .u32 (g : Int) ∧ 1 ≤ g ∧ g ≤ g0 ∧ Below w3.heap.size w3 wr) (fun G _ => g0 - (intOf G).toNat)
  case atStart => exact ⟨1, rfl, Nat.le_refl _, hg1, Below.refl _ _⟩
  case round =>
    obtain ⟨g, rfl, hg1', hgg, hbl⟩ := hrel
    go_wp2_with fail
    go_loopw [7, 29] (fun F I wr2 => ∃ (i : Nat) (f : Bool), I = .int .i64 (i : Int) ∧ i ≤ l.length ∧ F = .bool f ∧ TI n N l g i f ∧ Below w3.heap.size w3 wr2) (fun _ I _ => l.length - (intOf I).toNat)
    case atStart => exact ⟨0, true, rfl, Nat.zero_le _, rfl, TI.start _ _ _ _, hbl⟩
    case round =>
      clear hbl
      obtain ⟨i, f, rfl, hil, rfl, hti, hbl2⟩ := hrel
      have HTI := Lib.hid hti
      have hz5 := hbl2.size
      clear hti
      by_cases hin : i < l.length
      · obtain ⟨b, rfl, hb1, hb2', hcell⟩ := HPW.out (by intro e; rw [e] at hin; exact absurd hin (Nat.not_lt_zero i))
        obtain ⟨x, hx⟩ : ∃ x, l[i]? = some x := ⟨l[i], List.getElem?_eq_getElem hin⟩
        obtain ⟨k1, k2⟩ := hcell i x hx
        have k1 := (hbl2.cell (p := ⟨b, i * 2, none⟩) hb2').trans k1
        have k2 := (hbl2.cell (p := ⟨b, i * 2 + 1, none⟩) hb2').trans k2
        obtain ⟨hqp, hqN⟩ := fac_prime HFAC.out (List.mem_of_getElem? hx)
        have hq2 := hqp.1
        have hqle := Nat.le_of_dvd hN0 hqN
        have HXX := Lib.hid hx
        obtain ⟨c', hc'⟩ := hqN
        clear hcell hx hqp
        obtain ⟨q, e⟩ := x
        simp only at k1 k2 hq2 hqle hc'
        have hq0 : ¬ q = 0 := by omega
        have hquo2 : (N : Int) / (q : Int) = (c' : Int) := by rw [hc', Int.natCast_mul]; exact Int.mul_ediv_cancel_left _ (by omega)
        have hquot2 : (N : Int).tdiv (q : Int) = (c' : Int) := by rw [Int.tdiv_eq_ediv_of_nonneg (by omega), hquo2]
        have hco : c' ≤ N := by rw [hc']; exact Nat.le_mul_of_pos_left _ (by omega)
        have hdiv : N / q = c' := by rw [hc', Nat.mul_div_cancel_left _ (by omega)]
        have HDIV := Lib.hid hdiv
        have hbn := hbl2.alloc hz5 (.cells #[.int .u32 (q : Int), .int .i64 (e : Int)] 45)
        have hzn := hbn.size
        obtain ⟨pv, hpv⟩ : ∃ pv, g ^ c' % n = pv := ⟨_, rfl⟩
        have hpvn : pv < n := by rw [← hpv]; exact Nat.mod_lt _ (by omega)
        have HPV := Lib.hid hpv
        have HPOW := Lib.hid (fun V => mpow_any g c' n V (by omega) (by omega) hp)
        rw [show powP g c' n = (pv, 0) by rw [← hpv]; exact if_pos ⟨⟨hn2, h1⟩, by omega⟩] at HPOW
        clear hc' hdiv hpv
        cases f
        · go_wp2_with fail
          refine (HPOW.out _).mono ?_
          rintro e6 w6 ⟨rfl, hb6⟩
          have hb36 := hbn.trans (hb6.mono hzn)
          go_wp2_with fail
          go_roundw
          case rel => exact ⟨i + 1, false, by go_num, hin, rfl, HTI.out.keep, hb36⟩
          case measure => simp only [intOf]; omega
        · go_wp2_with fail
          refine (HPOW.out _).mono ?_
          rintro e6 w6 ⟨rfl, hb6⟩
          have hb36 := hbn.trans (hb6.mono hzn)
          by_cases hu : pv = 1
          · have q4 : ((pv : Int) != 1) = false := by subst hu; rfl
            have HNX := Lib.hid (HTI.out.next (g := false) HXX.out hn2 (by show g ^ (N / q) % n = pv; rw [HDIV.out]; exact HPV.out) (by simp [hu]))
            clear hu
            go_wp2
            go_roundw
            case rel => exact ⟨i + 1, false, by go_num, hin, rfl, HNX.out, hb36⟩
            case measure => simp only [intOf]; omega
          · have q4 : ((pv : Int) != 1) = true := by simp; omega
            have HNX := Lib.hid (HTI.out.next (g := true) HXX.out hn2 (by show g ^ (N / q) % n = pv; rw [HDIV.out]; exact HPV.out) (by simp [hu]))
            clear hu
            go_wp2
            go_roundw
            case rel => exact ⟨i + 1, true, by go_num, hin, rfl, HNX.out, hb36⟩
            case measure => simp only [intOf]; omega
      · obtain rfl : i = l.length := by omega
        cases f
        · have hne : g ≠ g0 := fun h => HTI.out.bad HFAC.out (by rw [h]; exact HG.out.1)
          go_wp2
          go_roundw
          case rel => exact ⟨g + 1, by go_num, by omega, by omega, hbl2⟩
          case measure => simp only [intOf]; omega
        · have hox := HTI.out.good HFAC.out hN0 (HFER.out g hg1' (by omega))
          have hle := HG.out.2.2 g (by omega) hox
          obtain rfl : g = g0 := by omega
          clear hox
          go_wp2
          go_ret2
          exact ⟨g, 0, rfl, HR.out, hb3.trans (hbl2.mono hz3)⟩
end Go.Proofs.Ythepdpfiahcfmaa
