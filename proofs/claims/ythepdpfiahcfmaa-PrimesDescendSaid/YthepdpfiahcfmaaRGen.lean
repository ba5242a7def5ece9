/- The contract of the reference's Generator. -/
import Derived.Test.YthepdpfiahcfmaaFacP
import Derived.Test.YthepdpfiahcfmaaRFactors
import Derived.Test.YthepdpfiahcfmaaPrime
namespace Go.Proofs.Ythepdpfiahcfmaa
open Go.RowKit Go.Sort
set_option linter.unusedVariables false

set_option maxRecDepth 100000 in
set_option maxHeartbeats 1000000 in
theorem rgen_any (n g0 : Nat) (w : World) (hn : n ≤ 4294967295) (hp : Mr.Pr n) (hg : Least n (n - 1) g0) :
    Calls Try.prog 28 #[.int .u32 n] w (RetV w (.int .u32 (g0 : Int))) := by
  have hn2 := hp.1
  have hg1 := hg.pos hp
  have hgn := hg.2.1
  have HP := Lib.hid hp
  have HG := Lib.hid hg
  obtain ⟨N, hN⟩ : ∃ N, n - 1 = N := ⟨_, rfl⟩
  have hNi : (n : Int) - 1 = (N : Int) := by omega
  rw [hN] at HG
  have HFER := Lib.hid (fun g (h1 : 1 ≤ g) (h2 : g < n) => U.fermat hp h1 h2)
  rw [hN] at HFER
  have hN0 : 0 < N := by omega
  clear hp hg hN
  go_enter Try.func28, Try.ntmps28
  go_wp2_with fail
  (with_reducible refine (rfactors_any N w (by omega)).mono ?_)
  rintro e w3 ⟨A, c, E, l, rfl, hlc, hpw, hfr, hb3⟩
  have hz3 := hb3.size
  rcases hfr with ⟨h0, _⟩ | ⟨_, rfl, hfac, hl40⟩
  · omega
  have HPW := Lib.hid hpw
  have HFAC := Lib.hid hfac
  clear hpw hfac
  go_wp2_with fail
  go_loop [5] (fun G => ∃ g : Nat, G = .int .u32 (g : Int) ∧ 1 ≤ g ∧ g ≤ g0) (fun G => g0 - (intOf G).toNat)
  case atStart => exact ⟨1, rfl, Nat.le_refl _, hg1⟩
  case round =>
    obtain ⟨g, rfl, hg1', hgg⟩ := hrel
    go_wp2_with fail
    go_loop [6, 7] (fun F I => ∃ (i : Nat) (f : Bool), I = .int .i64 (i : Int) ∧ i ≤ l.length ∧ F = .bool f ∧ TI n N l g i f) (fun _ I => l.length - (intOf I).toNat)
    case atStart => exact ⟨0, true, rfl, Nat.zero_le _, rfl, TI.start _ _ _ _⟩
    case round =>
      obtain ⟨i, f, rfl, hil, rfl, hti⟩ := hrel
      have HTI := Lib.hid hti
      clear hti
      by_cases hin : i < l.length
      · obtain ⟨b, rfl, hb1, hb2', hcell⟩ := HPW.out (by intro e; rw [e] at hin; exact absurd hin (Nat.not_lt_zero i))
        obtain ⟨x, hx⟩ : ∃ x, l[i]? = some x := ⟨l[i], List.getElem?_eq_getElem hin⟩
        obtain ⟨k1, k2⟩ := hcell i x hx
        obtain ⟨hqp, hqN⟩ := fac_prime HFAC.out (List.mem_of_getElem? hx)
        have hq2 := hqp.1
        have hqle := Nat.le_of_dvd hN0 hqN
        have HXX := Lib.hid hx
        obtain ⟨c', hc'⟩ := hqN
        clear hcell hx hqp
        obtain ⟨q, e⟩ := x
        simp only at k1 k2 hq2 hqle hc'
        have hq0 : ¬ q = 0 := by omega
        have hquo2 : (N : Int) / (q : Int) = (c' : Int) := by rw [hc', Int.natCast_mul]; exact Int.mul_ediv_cancel_left _ (by omega)
        have hquot2 : (N : Int).tdiv (q : Int) = (c' : Int) := by rw [Int.tdiv_eq_ediv_of_nonneg (by omega), hquo2]
        have hco : c' ≤ N := by rw [hc']; exact Nat.le_mul_of_pos_left _ (by omega)
        have hdiv : N / q = c' := by rw [hc', Nat.mul_div_cancel_left _ (by omega)]
        have HDIV := Lib.hid hdiv
        clear hc' hdiv
        cases f
        · go_wp2_with fail
          go_round
          case rel => exact ⟨i + 1, false, by go_num, hin, rfl, HTI.out.keep⟩
          case measure => simp only [intOf]; omega
        · obtain ⟨pv, hpv⟩ : ∃ pv, g ^ c' % n = pv := ⟨_, rfl⟩
          have hpvn : pv < n := by rw [← hpv]; exact Nat.mod_lt _ (by omega)
          have HPV := Lib.hid hpv
          have HPOW := Lib.hid (rpower_any g c' n w3 (by omega) (by omega) hn2 hn)
          rw [hpv] at HPOW
          clear hpv
          go_wp2_with fail
          (with_reducible refine HPOW.out.mono ?_)
          rintro e6 w6 ⟨rfl, hw6⟩
          subst hw6
          by_cases hu : pv = 1
          · have q4 : ((pv : Int) != 1) = false := by subst hu; rfl
            have HNX := Lib.hid (HTI.out.next (g := false) HXX.out hn2 (by show g ^ (N / q) % n = pv; rw [HDIV.out]; exact HPV.out) (by simp [hu]))
            clear hu
            go_wp2
            go_round
            case rel => exact ⟨i + 1, false, by go_num, hin, rfl, HNX.out⟩
            case measure => simp only [intOf]; omega
          · have q4 : ((pv : Int) != 1) = true := by simp; omega
            have HNX := Lib.hid (HTI.out.next (g := true) HXX.out hn2 (by show g ^ (N / q) % n = pv; rw [HDIV.out]; exact HPV.out) (by simp [hu]))
            clear hu
            go_wp2
            go_round
            case rel => exact ⟨i + 1, true, by go_num, hin, rfl, HNX.out⟩
            case measure => simp only [intOf]; omega
      · obtain rfl : i = l.length := by omega
        cases f
        · have hne : g ≠ g0 := fun h => HTI.out.bad HFAC.out (by rw [h]; exact HG.out.1)
          go_wp2
          go_round
          case rel => exact ⟨g + 1, by go_num, by omega, by omega⟩
          case measure => simp only [intOf]; omega
        · have hox := HTI.out.good HFAC.out hN0 (HFER.out g hg1' (by omega))
          have hle := HG.out.2.2 g (by omega) hox
          obtain rfl : g = g0 := by omega
          clear hox
          go_wp2
          go_ret
          exact ⟨rfl, hb3⟩

end Go.Proofs.Ythepdpfiahcfmaa
