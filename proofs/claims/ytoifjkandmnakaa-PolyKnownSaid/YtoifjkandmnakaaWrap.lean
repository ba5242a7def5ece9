/- The contracts of poly.Wrap and of the reference's Wrap. -/
import Derived.Test.YtoifjkandmnakaaEval
import Derived.BigRegion
namespace Go.Proofs.Ytoifjkandmnakaa
open Go.RowKit

/-- the first i elements, wrapped: what they bring to element j (before the modulus is taken) -/
def wTerm (m N : Nat) (a : Nat → Nat) (t : Nat) : Nat := if t / N % 2 = 1 then m - a t else a t
def wS (m N : Nat) (a : Nat → Nat) (i j : Nat) : Nat := sumN (fun t => if t % N = j then wTerm m N a t else 0) i
def wrapF (m n : Nat) (a : Nat → Nat) (N : Nat) : Nat → Nat := fun j => if j < N then wS m N a n j % m else 0

def wrE (m n : Nat) (a : Nat → Nat) (k : Int) : Nat := if chk m n a = 0 then (if k < 1 ∨ 256 < k then 2 else 0) else chk m n a
def wrN (m n : Nat) (a : Nat → Nat) (k : Int) : Nat := if wrE m n a k = 0 then k.toNat else 0
def wrF (m n : Nat) (a : Nat → Nat) (k : Int) : Nat → Nat := if wrE m n a k = 0 then wrapF m n a k.toNat else fun _ => 0
def RetWr (w : World) (m n : Nat) (a : Nat → Nat) (k : Int) : Ending → World → Prop := RetSlE w (wrN m n a k) (wrF m n a k) (wrE m n a k)

theorem retWr_err {w w' : World} {m n x : Nat} {a : Nat → Nat} {k : Int} (hx : wrE m n a k = x) (h0 : x ≠ 0) (hb : Below w.heap.size w w') : RetWr w m n a k (.returned (.tuple #[.slice none 0 0, .int .i64 (x : Int)])) w' := by
  have e1 : wrN m n a k = 0 := by unfold wrN; rw [hx, if_neg h0]
  have e2 : wrF m n a k = fun _ => 0 := by unfold wrF; rw [hx, if_neg h0]
  unfold RetWr
  rw [e1, e2, hx]
  exact ⟨none, 0, rfl, Nat.le_refl _, Sq.nil _ _ _ _ _, hb⟩
theorem retWr_ok {w w' : World} {m n N : Nat} {a : Nat → Nat} {A : Option Addr} {c : Nat} (hE : wrE m n a N = 0) (hc : N ≤ c) (h : Sq .u32 w' w.heap.size w'.heap.size A N (wrapF m n a N)) (hb : Below w.heap.size w w') :
    RetWr w m n a N (.returned (.tuple #[.slice A N c, .int .i64 0])) w' := by
  have e1 : wrN m n a N = N := by unfold wrN; rw [if_pos hE]; rfl
  have e2 : wrF m n a N = wrapF m n a N := by unfold wrF; rw [if_pos hE]; rfl
  unfold RetWr
  rw [e1, e2, hE]
  exact ⟨A, c, rfl, hc, h, hb⟩

theorem wS_hit {m N i j : Nat} {a : Nat → Nat} (h : i % N = j) : wS m N a (i + 1) j = wS m N a i j + wTerm m N a i := by
  unfold wS
  rw [sumN, if_pos h]
theorem wS_miss {m N i j : Nat} {a : Nat → Nat} (h : i % N ≠ j) : wS m N a (i + 1) j = wS m N a i j := by
  unfold wS
  rw [sumN, if_neg h, Nat.add_zero]

set_option maxHeartbeats 2000000 in
theorem wrap_any (m n c : Nat) (k : Int) (A : Option Addr) (a : Nat → Nat) (w : World) (lo hi : Nat) (ha : Sq .u32 w lo hi A n a) (hn : n ≤ 9223372036854775807) (hhi : hi ≤ w.heap.size) :
    Calls Try.prog 25 #[.int .u32 m, .slice A n c, .int .i64 k] w (RetWr w m n a k) := by
  have HV := Lib.hid (check1_call m n c A a w lo hi ha hn hhi)
  by_cases hc : chk m n a = 0
  · rw [hc] at HV
    obtain ⟨m1, m2, n1, _, _⟩ := chk_zero hc
    have HAA := Lib.hid (vals_lt hc ha.1)
    have HA := Lib.hid ha
    clear ha
    by_cases hk : k < 1 ∨ 256 < k
    · have hE : wrE m n a k = 2 := by unfold wrE; rw [if_pos hc, if_pos hk]
      have HE := Lib.hid hE
      clear hc hE
      rcases hk with hk | hk
      all_goals
        go_enter Try.func25, Try.ntmps25
        go_wp2_with fail
        refine (HV.out _ rfl).mono ?_
        rintro e w1 ⟨rfl, hbel1⟩
        go_wp2
        go_ret2
        exact retWr_err HE.out (by decide) hbel1
    · have hE : wrE m n a k = 0 := by unfold wrE; rw [if_pos hc, if_neg hk]
      have HE := Lib.hid hE
      obtain ⟨N, rfl⟩ := Int.eq_ofNat_of_zero_le (show 0 ≤ k by omega)
      have hN1 : 1 ≤ N := by omega
      have hN2 : N ≤ 256 := by omega
      clear hc hE hk
      go_enter Try.func25, Try.ntmps25
      go_wp2_with fail
      refine (HV.out _ rfl).mono ?_
      rintro e w1 ⟨rfl, hbel1⟩
      have hz1 := hbel1.size
      have HA1 := Lib.hid (HA.out.below hbel1 hhi)
      go_wp2_with (at_make; refine wpl_make rfl _ _ _ rfl e32 .i64 .i64 _ _ N rfl rfl rfl rfl (by omega) (by unfold maxLen; omega) ?_; intro w2 hr2 hb2 hs2)
      go_loopw [29] (fun i wr => ∃ t : Nat, t ≤ n ∧ i = .int .i64 t ∧ wr.rowIs w1.heap.size 22 N (ku .u32 fun j => wS m N a t j % m) ∧ Below w1.heap.size w1 wr ∧ w1.heap.size < wr.heap.size) (fun i _ => n - (intOf i).toNat)
      case atStart =>
        refine ⟨0, Nat.zero_le _, rfl, hr2.congr fun j _ => ?_, hb2, hs2⟩
        simp [ku, wS, sumN]
      case round =>
        clear hr2 hb2 hs2
        obtain ⟨t, ht, rfl, hr, hbel, hsz⟩ := hrel
        by_cases htn : t < n
        · obtain ⟨g, off, rfl, _, hg, hcell⟩ := HA1.out.2 (by omega)
          have hc1 := (hbel.cell (p := ⟨g, off + t, none⟩) (show g < w1.heap.size by omega)).trans (hcell t htn)
          have hxm := HAA.out t
          have hmodlt := Nat.mod_lt t (show 0 < N by omega)
          have hc2 := hr.cell hmodlt
          simp only [ku] at hc2
          have hf2 := hr.frozen (t % N)
          have hzm : wS m N a t (t % N) % m < m := Nat.mod_lt _ (by omega)
          obtain ⟨x, hx⟩ : ∃ x, a t = x := ⟨_, rfl⟩
          obtain ⟨z, hz⟩ : ∃ z, wS m N a t (t % N) % m = z := ⟨_, rfl⟩
          rw [hx] at hc1 hxm
          rw [hz] at hc2 hzm
          have hmi : (t : Int) % (N : Int) = ((t % N : Nat) : Int) := by simp
          have hmb : 0 ≤ (t : Int) % (N : Int) := by omega
          have hmb2 : (t : Int) % (N : Int) < (N : Int) := by omega
          have hdi : (t : Int) / (N : Int) = ((t / N : Nat) : Int) := by simp
          obtain ⟨b1, b2⟩ := quo_bounds t N
          by_cases hp : t / N % 2 = 1
          · have hq : ((t : Int) / (N : Int) % 2 == 1) = true := by rw [hdi]; simp; omega
            have HR := Lib.hid hr
            have HX := Lib.hid hx
            have HZ := Lib.hid hz
            have HP := Lib.hid hp
            have hd1 : 0 ≤ ((m : Int) - (x : Int)) % (m : Int) := Int.emod_nonneg _ (by omega)
            have hd2 : ((m : Int) - (x : Int)) % (m : Int) < (m : Int) := Int.emod_lt_of_pos _ (by omega)
            obtain ⟨v, hv⟩ : ∃ v, (m - x) % m = v := ⟨_, rfl⟩
            have hvm : (m - x) % m < m := Nat.mod_lt _ (by omega)
            rw [hv] at hvm
            have hvi : ((m : Int) - (x : Int)) % (m : Int) = (v : Int) := by rw [← hv, Int.natCast_emod, Int.ofNat_sub (Nat.le_of_lt hxm)]
            have HVI := Lib.hid hvi
            have HVV := Lib.hid hv
            have hd3 : 0 ≤ ((z : Int) + (v : Int)) % (m : Int) := Int.emod_nonneg _ (by omega)
            have hd4 : ((z : Int) + (v : Int)) % (m : Int) < (m : Int) := Int.emod_lt_of_pos _ (by omega)
            clear hr hx hz hmi hdi hcell hp hv hvi
            go_wp2
            rw [HVI.out]
            clear hd1 hd2
            go_region
            go_wp2
            go_roundw
            case rel =>
              refine ⟨t + 1, by omega, by go_num, ?_, (hbel.setCell (Nat.le_refl _) _).drew, by simpa using hsz⟩
              have e1 : ((z : Int) + (v : Int)) % (m : Int) = (((z + v) % m : Nat) : Int) := by simp
              rw [e1]
              refine (World.rowIs.drew (rowIs_set_ku HR.out (t % N) ((z + v) % m))).congr fun j _ => ?_
              simp only [ku]
              congr 2
              by_cases h1 : j = t % N
              · subst h1
                rw [if_pos rfl, wS_hit rfl, ← HZ.out, Nat.mod_add_mod]
                unfold wTerm
                rw [if_pos HP.out, HX.out, ← HVV.out, Nat.add_mod_mod]
              · rw [if_neg h1, wS_miss (fun h => h1 h.symm)]
            case measure => simp [intOf]; omega
          · have hq : ((t : Int) / (N : Int) % 2 == 1) = false := by rw [hdi]; simp; omega
            have HR := Lib.hid hr
            have HX := Lib.hid hx
            have HZ := Lib.hid hz
            have HP := Lib.hid hp
            have hd3 : 0 ≤ ((z : Int) + (x : Int)) % (m : Int) := Int.emod_nonneg _ (by omega)
            have hd4 : ((z : Int) + (x : Int)) % (m : Int) < (m : Int) := Int.emod_lt_of_pos _ (by omega)
            clear hr hx hz hmi hdi hcell hp
            go_wp2
            go_region
            go_wp2
            go_roundw
            case rel =>
              refine ⟨t + 1, by omega, by go_num, ?_, (hbel.setCell (Nat.le_refl _) _).drew, by simpa using hsz⟩
              have e1 : ((z : Int) + (x : Int)) % (m : Int) = (((z + x) % m : Nat) : Int) := by simp
              rw [e1]
              refine (World.rowIs.drew (rowIs_set_ku HR.out (t % N) ((z + x) % m))).congr fun j _ => ?_
              simp only [ku]
              congr 2
              by_cases h1 : j = t % N
              · subst h1
                rw [if_pos rfl, wS_hit rfl, ← HZ.out, Nat.mod_add_mod]
                unfold wTerm
                rw [if_neg HP.out, HX.out]
              · rw [if_neg h1, wS_miss (fun h => h1 h.symm)]
            case measure => simp [intOf]; omega
        · obtain rfl : t = n := by omega
          have hsq : Sq .u32 wr w.heap.size wr.heap.size (some ⟨w1.heap.size, 0, none⟩) N (wrapF m t a N) :=
            Sq.of_row hr (Nat.le_refl _) hz1 hsz (fun j hj => by unfold wrapF; rw [if_neg (by omega)]) fun j hj => by unfold wrapF; rw [if_pos hj]
          have HS := Lib.hid hsq
          clear hsq hr
          go_wp2
          go_ret2
          exact retWr_ok HE.out (Nat.le_refl _) HS.out (hbel1.trans (hbel.mono hz1))
  · obtain ⟨y, hy⟩ : ∃ y, chk m n a = y := ⟨_, rfl⟩
    have hE : wrE m n a k = y := by unfold wrE; rw [if_neg hc, hy]
    rw [hy] at HV hc
    have hyz : ((y : Int) != 0) = true := by simp; omega
    have HE := Lib.hid hE
    clear hy ha hE
    go_enter Try.func25, Try.ntmps25
    go_wp2_with fail
    refine (HV.out _ rfl).mono ?_
    rintro e w1 ⟨rfl, hbel1⟩
    go_wp2
    go_ret2
    exact retWr_err HE.out hc hbel1
end Go.Proofs.Ytoifjkandmnakaa
