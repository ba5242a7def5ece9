/- The automorphisms: what Auto computes, and what Decode makes of it. -/
import Derived.Test.YtcnkddoipmaddaaMov8b
import Derived.Test.YtcnkddoipmaddaaPow8
namespace Go.Proofs.Ytcnkddoipmaddaa
open Go.RowKit
set_option linter.unusedVariables false

/-- the automorphism x -> x^k of a list -/
def autF (n k : Nat) (a : Nat → Int) : Nat → Nat → Int
  | 0 => fun _ => 0
  | i + 1 => fun m => if m = i * k % (2 * n) % n then (if i * k % (2 * n) < n then a i else -(a i)) else autF n k a i m
theorem autF_out {n k : Nat} {a : Nat → Int} (hn : 0 < n) : ∀ i m, n ≤ m → autF n k a i m = 0
  | 0, m, _ => rfl
  | i + 1, m, h => by
    have := Nat.mod_lt (i * k % (2 * n)) hn
    unfold autF
    rw [if_neg (by omega)]
    exact autF_out hn i m h
theorem autF_bl {n k q : Nat} {a : Nat → Int} (ha : Bl q n a) : ∀ i, i ≤ n → Bl q n (autF n k a i)
  | 0, _ => fun m _ => by
    show -((q / 2 : Nat) : Int) ≤ 0 ∧ (0 : Int) ≤ ((q / 2 : Nat) : Int)
    omega
  | i + 1, h => fun m hm => by
    have h1 := ha i (by omega)
    have h2 := autF_bl (k := k) ha i (by omega) m hm
    unfold autF
    split
    · split <;> omega
    · exact h2
theorem dim8_two {n : Nat} (h : dim8 n) : ∃ j, n = 2 ^ j := by
  rcases h with rfl | rfl | rfl | rfl
  · exact ⟨2, rfl⟩
  · exact ⟨3, rfl⟩
  · exact ⟨4, rfl⟩
  · exact ⟨5, rfl⟩
theorem pos_inj {n k i j : Nat} (hd : dim8 n) (hk : k % 2 = 1) (hi : i < j) (hj : j < n) : i * k % (2 * n) % n ≠ j * k % (2 * n) % n := fun he => by
  obtain ⟨t, ht⟩ := dim8_two hd
  rw [Nat.mod_mod_of_dvd _ ⟨2, by omega⟩, Nat.mod_mod_of_dvd _ ⟨2, by omega⟩] at he
  have h1 : n ∣ j * k - i * k := Nat.dvd_of_mod_eq_zero (Nat.sub_mod_eq_zero_of_mod_eq he.symm)
  rw [← Nat.sub_mul] at h1
  have hc : Nat.Coprime n k := by
    rw [ht]
    refine Nat.Coprime.pow_left t ?_
    have h2 : Nat.gcd 2 k ∣ 2 := Nat.gcd_dvd_left 2 k
    have h3 : Nat.gcd 2 k ∣ k := Nat.gcd_dvd_right 2 k
    have h4 := Nat.le_of_dvd (by omega) h2
    have h5 : Nat.gcd 2 k ≠ 2 := fun h => by rw [h] at h3; omega
    have h6 : Nat.gcd 2 k ≠ 0 := fun h => by rw [h] at h2; omega
    show Nat.gcd 2 k = 1
    omega
  have h2 := Nat.le_of_dvd (by omega) (hc.dvd_of_dvd_mul_right h1)
  omega
/-- one place of a sum set anew -/
theorem zsum_set {n p : Nat} {f g : Nat → Int} {v : Int} (hp : p < n) : zsum (fun m => (if m = p then v else f m) * g m) n = zsum (fun m => f m * g m) n + (v - f p) * g p := by
  have e : zsum (fun m => (if m = p then v else f m) * g m - f m * g m) n = (v - f p) * g p := by
    rw [zsum_one (j := p) n hp (fun m _ hne => by rw [if_neg hne, Int.sub_self])]
    rw [if_pos rfl, Int.sub_mul]
  rw [zsum_sub] at e
  generalize (v - f p) * g p = c at e ⊢
  omega
theorem aut_zero {n k : Nat} {a : Nat → Int} (hd : dim8 n) (hk : k % 2 = 1) : ∀ i j, i ≤ j → j < n → autF n k a i (j * k % (2 * n) % n) = 0
  | 0, _, _, _ => rfl
  | i + 1, j, h, hj => by
    unfold autF
    rw [if_neg (pos_inj hd hk (show i < j by omega) hj).symm]
    exact aut_zero hd hk i j (by omega) hj
theorem aut_sum {p n e x k E : Nat} {a : Nat → Int} (hd : dim8 n) (h : Zr p n e x) (hk : k % 2 = 1) (hE : E % 2 = 1) : ∀ i, i ≤ n → Cg (p ^ e) (zsum (fun m => autF n k a i m * (x : Int) ^ (m * E)) n) (zsum (fun j => a j * (x : Int) ^ (j * (k * E))) i)
  | 0, _ => by
    have : zsum (fun m => autF n k a 0 m * (x : Int) ^ (m * E)) n = 0 := zsum_zero n fun i _ => by show (0 : Int) * _ = 0; rw [Int.zero_mul]
    rw [this]
    exact Cg.refl _ _
  | i + 1, hi => by
    have ih := aut_sum (a := a) hd h hk hE i (by omega)
    have hn0 : 0 < n := by omega
    obtain ⟨at', hat⟩ : ∃ at', i * k % (2 * n) = at' := ⟨_, rfl⟩
    have hatb : at' < 2 * n := by rw [← hat]; exact Nat.mod_lt _ (by omega)
    have hz := aut_zero (a := a) hd hk i i (Nat.le_refl _) (show i < n by omega)
    rw [hat] at hz
    have e1 : zsum (fun m => autF n k a (i + 1) m * (x : Int) ^ (m * E)) n = zsum (fun m => (if m = at' % n then (if at' < n then a i else -(a i)) else autF n k a i m) * (x : Int) ^ (m * E)) n := by
      show zsum (fun m => (if m = i * k % (2 * n) % n then (if i * k % (2 * n) < n then a i else -(a i)) else autF n k a i m) * (x : Int) ^ (m * E)) n = _
      rw [hat]
    rw [e1, zsum_set (Nat.mod_lt _ hn0), hz, Int.sub_zero]
    refine ih.add ?_
    have hper : Cg (p ^ e) ((x : Int) ^ (at' * E)) ((x : Int) ^ (i * (k * E))) := h.per (by rw [← hat, Nat.mod_mul_mod, Nat.mul_assoc])
    by_cases hlt : at' < n
    · rw [if_pos hlt, Nat.mod_eq_of_lt hlt]
      exact (Cg.refl _ _).mul hper
    · rw [if_neg hlt, show at' % n = at' - n by rw [Nat.mod_eq_sub_mod (by omega), Nat.mod_eq_of_lt (by omega)]]
      have h1 : (x : Int) ^ (at' * E) = (x : Int) ^ ((at' - n) * E) * ((x : Int) ^ n) ^ E := by
        rw [← Int.pow_mul, ← Int.pow_add, ← Nat.add_mul, Nat.sub_add_cancel (by omega)]
      have h2 := h.neg.pow E
      have h3 : (-1 : Int) ^ E = -1 := by
        obtain ⟨t, rfl⟩ : ∃ t, E = 2 * t + 1 := ⟨E / 2, by omega⟩
        rw [Int.pow_succ, Int.pow_mul]
        simp [Int.one_pow]
      rw [h3] at h2
      have h4 := ((Cg.refl (p ^ e) ((x : Int) ^ ((at' - n) * E))).mul h2)
      rw [← h1] at h4
      have h5 := (Cg.refl (p ^ e) (a i)).mul (h4.symm.trans hper)
      refine Cg.trans (Cg.of_eq ?_) h5
      rw [Int.mul_neg, Int.mul_one, Int.neg_mul, Int.mul_neg]
/-- the vector of the automorphism -/
theorem dec_aut {p n e x k j : Nat} {a : Nat → Int} (hd : dim8 n) (h : Zr p n e x) (hk : k % 2 = 1) (hj : j < n) : decF (p ^ e) n x (autF n k a n) j = decF (p ^ e) n x a (movN n k j) := by
  obtain ⟨m1, m2⟩ := mov_fact hd hk hj
  unfold decF
  rw [if_pos hj, if_pos m1]
  refine bal_congr ((aut_sum hd h hk (ex_fact hd j hj).1 n (Nat.le_refl _)).trans ?_)
  unfold decZ
  refine Cg.sum n fun i _ => (Cg.refl _ _).mul (h.per ?_)
  rw [m2, Nat.mul_mod_mod, Nat.mul_comm (exN n j) k]
theorem turn_fact {n : Nat} (h : dim8 n) : ∀ tt, tt < n / 2 → ∀ j, j < n → movN n (3 ^ tt % (2 * n)) j = j / (n / 2) * (n / 2) + (j % (n / 2) + tt) % (n / 2) ∧ movN n (2 * n - 3 ^ tt % (2 * n)) j = (1 - j / (n / 2)) * (n / 2) + (j % (n / 2) + tt) % (n / 2) := by
  rcases h with rfl | rfl | rfl | rfl <;> decide +kernel
theorem pow_mv {n : Nat} {t : Int} {s : Bool} (h : dim8 n) : powN n t s % 2 = 1 ∧ 1 ≤ powN n t s ∧ powN n t s < 2 * n := by
  have hn : 4 ≤ n := by unfold dim8 at h; omega
  obtain ⟨h1, _⟩ := tnN_lt (t := t) hn
  have h2 := ex_fact h (tnN n t) (by omega)
  unfold exN at h2
  rw [if_pos h1] at h2
  unfold powN
  obtain ⟨v, hv⟩ : ∃ v, 3 ^ tnN n t % (2 * n) = v := ⟨_, rfl⟩
  rw [hv] at h2 ⊢
  obtain ⟨a1, a2, _⟩ := h2
  cases s
  · show v % 2 = 1 ∧ 1 ≤ v ∧ v < 2 * n
    omega
  · show (2 * n - v) % 2 = 1 ∧ 1 ≤ 2 * n - v ∧ 2 * n - v < 2 * n
    omega

def AutR (w : World) (n k : Nat) (a : Nat → Int) (e : Ending) (w' : World) : Prop := Below w.heap.size w w' ∧ ∃ A' c', e = .returned (.slice A' n c') ∧ Z.Sq .i64 w' w.heap.size w'.heap.size A' n (autF n k a n)
set_option maxRecDepth 100000 in
set_option maxHeartbeats 1000000 in
theorem auto_any (n c k lo hi : Nat) (A : Option Addr) (a : Nat → Int) (w : World) (ha : Z.Sq .i64 w lo hi A n a) (hn : 4 ≤ n) (hn2 : n ≤ 32) (hk : k ≤ 64) (hhi : hi ≤ w.heap.size) (hab : ∀ i, i < n → -9223372036854775807 ≤ a i ∧ a i ≤ 9223372036854775807) :
    Calls Try.prog 28 #[.slice A n c, .int .i64 (k : Int)] w (AutR w n k a) := by
  have HA := Lib.hid ha
  have HAB := Lib.hid hab
  have hn0 : ¬ n = 0 := by omega
  clear ha hab
  go_enter Try.func28, Try.ntmps28
  go_wp2_with (at_make; refine Z.wpl_make rfl _ _ _ rfl e64s .i64 .i64 _ _ n rfl rfl rfl rfl (by omega) (by unfold maxLen; omega) ?_; intro w1 hr1 hb1 hs1)
  have HR := Lib.hid hr1
  clear hr1
  go_loopw [7] (fun I wr => ∃ i : Nat, I = .int .i64 (i : Int) ∧ i ≤ n ∧ wr.rowIs w.heap.size 2 n (Z.ku .i64 (autF n k a i)) ∧ Below w.heap.size w wr) (fun I _ => n - (intOf I).toNat)
  case atStart => exact ⟨0, rfl, Nat.zero_le _, HR.out.congr fun _ _ => rfl, hb1⟩
  case round =>
    obtain ⟨i, rfl, hin, hrow, hbl⟩ := hrel
    have HROW := Lib.hid hrow
    have HBE := Lib.hid hbl
    clear hrow hbl
    by_cases hlt : i < n
    · have e1 : decide ((i : Int) < (n : Int)) = true := decide_eq_true (by omega)
      obtain ⟨gg, off, hAe, _, hgl, hcell⟩ := (HA.out.below HBE.out hhi).2 (by omega)
      have ka := hcell i hlt
      have hyb := HAB.out i hlt
      obtain ⟨y, hy⟩ : ∃ y, a i = y := ⟨_, rfl⟩
      rw [hy] at ka hyb
      rw [hAe]
      obtain ⟨pr, hpr⟩ : ∃ pr, i * k = pr := ⟨_, rfl⟩
      have hpi : (i : Int) * (k : Int) = (pr : Int) := by rw [← hpr]; simp
      have hpb : pr ≤ 32 * 64 := by rw [← hpr]; exact Nat.mul_le_mul (by omega) (by omega)
      obtain ⟨z, hz⟩ : ∃ z, pr % (2 * n) = z := ⟨_, rfl⟩
      have hzi : (pr : Int) % (2 * (n : Int)) = (z : Int) := by rw [← hz]; simp
      have hzt : (pr : Int).tmod (2 * (n : Int)) = (z : Int) := by rw [Int.tmod_eq_emod_of_nonneg (by omega), hzi]
      have hzb : z < 2 * n := by rw [← hz]; exact Nat.mod_lt _ (by omega)
      have i0 : 0 ≤ (i : Int) := by omega
      have i1 : (i : Int) < (n : Int) := by omega
      by_cases hzn : z < n
      · have e2 : decide ((z : Int) < (n : Int)) = true := decide_eq_true (by omega)
        have HNX : Hid (autF n k a (i + 1) = fun m => if m = z then y else autF n k a i m) := Lib.hid (by
          funext m
          show (if m = i * k % (2 * n) % n then (if i * k % (2 * n) < n then a i else -(a i)) else autF n k a i m) = _
          rw [hpr, hz, if_pos hzn, Nat.mod_eq_of_lt hzn, hy])
        have kc := HROW.out.cell hzn
        have kf := HROW.out.frozen z
        simp only [Z.ku] at kc
        obtain ⟨v, hv⟩ : ∃ v, autF n k a i z = v := ⟨_, rfl⟩
        rw [hv] at kc
        have z0 : 0 ≤ (z : Int) := by omega
        have z1 : (z : Int) < (n : Int) := by omega
        clear hcell hy hAe hpr hz hv
        go_wp2
        go_roundw
        case rel => exact ⟨i + 1, by go_num, hlt, by rw [HNX.out]; exact Z.rowIs_set_ku HROW.out z y, HBE.out.setCell (p := ⟨w.heap.size, z, none⟩) (Nat.le_refl _) _⟩
        case measure => simp only [intOf]; omega
      · have e2 : decide ((z : Int) < (n : Int)) = false := decide_eq_false (by omega)
        obtain ⟨u, hu⟩ : ∃ u, z - n = u := ⟨_, rfl⟩
        have hui : (z : Int) - (n : Int) = (u : Int) := by omega
        have hun : u < n := by omega
        have HNX : Hid (autF n k a (i + 1) = fun m => if m = u then -y else autF n k a i m) := Lib.hid (by
          funext m
          show (if m = i * k % (2 * n) % n then (if i * k % (2 * n) < n then a i else -(a i)) else autF n k a i m) = _
          rw [hpr, hz, if_neg hzn, show z % n = u by rw [Nat.mod_eq_sub_mod (by omega), Nat.mod_eq_of_lt (by omega), hu], hy])
        have kc := HROW.out.cell hun
        have kf := HROW.out.frozen u
        simp only [Z.ku] at kc
        obtain ⟨v, hv⟩ : ∃ v, autF n k a i u = v := ⟨_, rfl⟩
        rw [hv] at kc
        have z0 : 0 ≤ (u : Int) := by omega
        have z1 : (u : Int) < (n : Int) := by omega
        clear hcell hy hAe hpr hz hv hu
        go_wp2
        go_roundw
        case rel => exact ⟨i + 1, by go_num, hlt, by rw [HNX.out]; exact Z.rowIs_set_ku HROW.out u (-y), HBE.out.setCell (p := ⟨w.heap.size, u, none⟩) (Nat.le_refl _) _⟩
        case measure => simp only [intOf]; omega
    · obtain rfl : n = i := by omega
      have e1 : decide ((n : Int) < (n : Int)) = false := decide_eq_false (by omega)
      go_wp2
      go_ret
      exact ⟨HBE.out, _, _, rfl, Z.Sq.of_row HROW.out (Nat.le_refl _) (Nat.le_refl _) HROW.out.lt (fun t ht => autF_out (by omega) n t ht) fun _ _ => rfl⟩
end Go.Proofs.Ytcnkddoipmaddaa
