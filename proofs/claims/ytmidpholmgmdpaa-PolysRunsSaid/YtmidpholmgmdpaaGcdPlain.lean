/- What the laws' walks share: arguments as functions, large at two lists, lent lists. -/
/- The contract of poly.combine: a + c b modulo m, without the zeros at its end. -/
/- The contracts of poly.Check, Add, Sub and of the reference's Add, Sub, Mul. -/
/- The contracts of poly.value and poly.Eval, and of the reference's Value and Eval. -/
/- Plain algebra of values: the value of a sum, of a product, and of the rest of a division. No program in sight. -/
/- The powers modulo a polynomial, plain: rest, product, square and multiply; the contract of PowMod's closure. -/
/- Euclid's rule on polynomials modulo a prime, plain. -/
import Derived.Test.YtmidpholmgmdpaaAwake
import Derived.Test.YtmidpholmgmdpaaRMod7
import Derived.Test.YtmidpholmgmdpaaLaws
import Derived.Test.YtmidpholmgmdpaaPairs
import Derived.Test.YtmidpholmgmdpaaAlg
import Derived.Test.YtmidpholmgmdpaaOrd
namespace Go.Proofs.Ytmidpholmgmdpaa
open Go.RowKit

/-- a slice of uint32 that came in, told by a function -/
theorem Sq.grown {k : IntKind} {w w' : World} {lo hi n g : Nat} {A : Option Addr} {f : Nat → Nat} (h : Sq k w lo hi A n f) (hg : w.grownBy w' (some g)) (hne : g < lo ∨ hi ≤ g) (hhi : hi ≤ w.heap.size) : Sq k w' lo hi A n f :=
  ⟨h.1, fun hn => by
    obtain ⟨b, off, e, h1, h2, h3⟩ := h.2 hn
    exact ⟨b, off, e, h1, h2, fun j hj => (World.cell?_of_block (hg.block b (by omega) (by simp; omega))).trans (h3 j hj)⟩⟩

theorem rowIs_grown {w w' : World} {b g t n : Nat} {F : Nat → Value} (h : w.rowIs b t n F) (hg : w.grownBy w' (some g)) (hne : b ≠ g) : w'.rowIs b t n F := h.of_block (hg.block b h.lt (by simp; omega))

theorem anyLong2_true {n nb : Nat} (h : 300 < n ∨ 300 < nb) : anyLong 2 (two n nb) = true := by
  rcases h with h | h
  · exact anyLong_true (k := 0) (by omega) h
  · exact anyLong_true (k := 1) (by omega) h
theorem anyLong2_false {n nb : Nat} (h : ¬(300 < n ∨ 300 < nb)) : anyLong 2 (two n nb) = false :=
  anyLong_false fun k hk => by
    match k, hk with
    | 0, _ => show n ≤ 300; omega
    | 1, _ => show nb ≤ 300; omega

/-- a lent list reads as the list -/
theorem sq_lent {w : World} {b n : Nat} {f : Nat → Nat} (h : w.rowIs b 22 (n + 1) (ku .u32 (lentF n f))) (hz : ∀ j, n ≤ j → f j = 0) : Sq .u32 w b (b + 1) (some ⟨b, 0, none⟩) n f :=
  Sq.of_row h (by omega) (Nat.le_refl _) (Nat.lt_succ_self _) hz fun j hj => lentF_lt hj
end Go.Proofs.Ytmidpholmgmdpaa

namespace Go.Proofs.Ytmidpholmgmdpaa
open Go.RowKit

def combF (m : Nat) (a b : Nat → Nat) (c : Nat) : Nat → Nat := fun j => (a j + b j * c) % m

set_option maxHeartbeats 400000 in
theorem combine_any (m c n nb ca cb : Nat) (A B : Option Addr) (a b : Nat → Nat) (w : World) (lo hi : Nat) (ha : Sq .u32 w lo hi A n a) (hb : Sq .u32 w lo hi B nb b)
    (hm : 0 < m) (hm2 : m ≤ 2147483647) (hc : c < m) (haa : ∀ j, a j < m) (hbb : ∀ j, b j < m) (hn : n ≤ 1000) (hnb : nb ≤ 1000) (hhi : hi ≤ w.heap.size) :
    Calls Try.prog 54 #[.int .u32 m, .slice A n ca, .slice B nb cb, .int .u32 c] w (RetSl w (tl (combF m a b c) (max n nb)) (combF m a b c)) := by
  obtain ⟨N, hN⟩ : ∃ N, N = max n nb := ⟨_, rfl⟩
  rw [← hN]
  have hN3 : N ≤ 1000 := by omega
  have hN1 : n ≤ N := by omega
  have hN2 : nb ≤ N := by omega
  rcases Nat.lt_or_ge n nb with hlt | hlt
  all_goals
    have HN := Lib.hid hN
    clear hN
    go_enter Try.func54, Try.ntmps54
    go_wp2_with (first
      | (at_make; refine wpl_make rfl _ _ _ rfl e32 .i64 .i64 _ _ _ rfl rfl rfl rfl (by omega) (by unfold maxLen; omega) ?_; intro w1 hr1 hb1 hs1)
      | ((with_reducible show wpList _ _ _ _ _ _); refine wpl_copy rfl _ _ _ rfl e32 rfl hr1 rfl (ha.below hb1 hhi) (by omega) ?_; intro w2 hr2 hb2))
    go_loopw [23] (fun i wr => ∃ k : Nat, k ≤ nb ∧ i = .int .i64 k ∧ wr.rowIs w.heap.size 22 N (ku .u32 fun j => if j < k then (a j + b j * c) % m else a j) ∧ Below w.heap.size w wr ∧ w.heap.size < wr.heap.size) (fun i _ => nb - (intOf i).toNat)
    case atStart =>
      refine ⟨0, Nat.zero_le _, rfl, ?_, hb1.trans hb2, by have := hb2.size; omega⟩
      refine (rowIs_n hr2 (by have := HN.out; omega)).congr fun j hj => ?_
      simp only [ku, Nat.not_lt_zero, if_false]
      split
      · rfl
      · rw [ha.1 j (by omega)]
    case round =>
      clear hr1 hr2 hb1 hb2 hs1
      obtain ⟨k, hk, rfl, hr, hbel, hsz⟩ := hrel
      by_cases hkn : k < nb
      · obtain ⟨g, off, rfl, _, hg, hcell⟩ := hb.2 (by omega)
        have hc1 : wr.cell? ⟨g, off + k, none⟩ = some (.int .u32 (b k : Nat)) := (hbel.cell (show g < w.heap.size by omega)).trans (hcell k hkn)
        have hc2 := hr.cell (show k < N by omega)
        simp only [ku, Nat.lt_irrefl, if_false] at hc2
        have hf2 := hr.frozen k
        obtain ⟨x, hx⟩ : ∃ x, b k = x := ⟨_, rfl⟩
        obtain ⟨y, hy⟩ : ∃ y, a k = y := ⟨_, rfl⟩
        have hxm := hbb k
        have hym := haa k
        rw [hx] at hc1 hxm
        rw [hy] at hc2 hym
        have hxc2 : (x : Int) * (c : Int) ≤ 4611686009837453316 := mul_lt_int hxm hc hm2
        have hxc3 : 0 ≤ (x : Int) * (c : Int) := Int.mul_nonneg (Int.natCast_nonneg _) (Int.natCast_nonneg _)
        have hd1 : 0 ≤ ((y : Int) + (x : Int) * (c : Int)) % (m : Int) := Int.emod_nonneg _ (by omega)
        have hd2 : ((y : Int) + (x : Int) * (c : Int)) % (m : Int) < (m : Int) := Int.emod_lt_of_pos _ (by omega)
        have HX := Lib.hid hx
        have HY := Lib.hid hy
        have HR := Lib.hid hr
        clear hx hy hcell hb hr
        go_wp2
        go_roundw
        case rel =>
          refine ⟨k + 1, by omega, by go_num, ?_, hbel.setCell (Nat.le_refl _) _, by simpa using hsz⟩
          have e1 : ((y : Int) + (x : Int) * (c : Int)) % (m : Int) = (((y + x * c) % m : Nat) : Int) := by simp
          rw [e1]
          refine (rowIs_set_ku HR.out k ((y + x * c) % m)).congr fun j _ => ?_
          simp only [ku]
          congr 2
          by_cases h1 : j = k
          · subst h1
            rw [if_pos rfl, if_pos (by omega), HX.out, HY.out]
          · rw [if_neg h1]
            by_cases h2 : j < k
            · rw [if_pos h2, if_pos (by omega)]
            · rw [if_neg h2, if_neg (by omega)]
        case measure => simp [intOf]; omega
      · have hsq : Sq .u32 wr w.heap.size wr.heap.size (some ⟨w.heap.size, 0, none⟩) N (combF m a b c) := by
          refine Sq.of_row hr (Nat.le_refl _) (Nat.le_refl _) hsz (fun j hj => ?_) fun j hj => ?_
          · simp only [combF]
            rw [ha.1 j (by omega), hb.1 j (by omega)]
            simp
          · simp only [combF]
            split
            · rfl
            · rw [hb.1 j (by omega), Nat.zero_mul, Nat.add_zero, Nat.mod_eq_of_lt (haa j)]
        have HS := Lib.hid hsq
        clear hsq hr ha hb haa hbb
        go_wp2_with (go_at_call 56; refine (trim_any _ _ _ _ _ _ _ (sq_n HS.out (by have := HN.out; omega)) (Nat.le_refl _) (by omega)).mono ?_; rintro e w' ⟨rfl, rfl⟩)
        go_ret
        have hT := tl_le (combF m a b c) N
        refine ⟨_, _, ret_slice (congrArg (tl (combF m a b c)) (by have := HN.out; omega)), by have := HN.out; omega, ?_, hbel⟩
        exact sq_tl HS.out
end Go.Proofs.Ytmidpholmgmdpaa

namespace Go.Proofs.Ytmidpholmgmdpaa
open Go.RowKit

def okF (er : Nat) (F : Nat → Nat) : Nat → Nat := if er = 0 then F else fun _ => 0
/-- a new list, if there is no error; its length has no zeros at the end -/
def RetE (w : World) (N : Nat) (F : Nat → Nat) (er : Nat) : Ending → World → Prop := RetSlE w (tl (okF er F) N) (okF er F) er

theorem retE_err {w w' : World} {N x : Nat} {F : Nat → Nat} (h0 : x ≠ 0) (hb : Below w.heap.size w w') : RetE w N F x (.returned (.tuple #[.slice none 0 0, .int .i64 (x : Int)])) w' := by
  have e1 : okF x F = fun _ => 0 := by unfold okF; rw [if_neg h0]
  unfold RetE
  rw [e1, tl_zeros (fun _ => rfl)]
  exact ⟨none, 0, rfl, Nat.le_refl _, Sq.nil _ _ _ _ _, hb⟩
theorem retE_ok {w w0 w' : World} {N N' : Nat} {F F' : Nat → Nat} {x : Value} (hF : F' = F) (hN : tl F N' = tl F N) (hb : Below w.heap.size w w0) (h : RetSl w0 (tl F' N') F' (.returned x) w') :
    RetE w N F 0 (.returned (.tuple #[x, .int .i64 0])) w' := by
  subst hF
  rw [hN] at h
  have e1 : okF 0 F' = F' := by unfold okF; rw [if_pos rfl]
  unfold RetE
  rw [e1]
  obtain ⟨A, c, he, h1, h2, h3⟩ := h
  injection he with he
  subst he
  exact ⟨A, c, rfl, h1, h2.wide hb.size (Nat.le_refl _), hb.trans (h3.mono hb.size)⟩

theorem combF_one (m : Nat) (a b : Nat → Nat) : combF m a b 1 = addF m a b := by
  funext j
  unfold combF addF
  rw [Nat.mul_one]
theorem mod_cancel {p q z m : Nat} (h : (p + z) % m = (q + z) % m) : p % m = q % m := by
  rcases Nat.eq_zero_or_pos m with h0 | h0
  · subst h0
    simp only [Nat.mod_zero] at h ⊢
    omega
  · obtain ⟨k, rfl⟩ : ∃ k, m = k + 1 := ⟨m - 1, by omega⟩
    have e : ∀ x, x % (k + 1) = ((x + z) % (k + 1) + z * k) % (k + 1) := fun x => by
      have e1 : x + z + z * k = x + z * (k + 1) := by rw [Nat.mul_add, Nat.mul_one]; omega
      rw [Nat.add_mod ((x + z) % (k + 1)), Nat.mod_mod, ← Nat.add_mod, e1, Nat.add_mul_mod_self_right]
    rw [e p, e q, h]
theorem combF_neg {m : Nat} {a b : Nat → Nat} (hm : 0 < m) (hb : ∀ j, b j < m) : combF m a b (m - 1) = subF m a b := by
  funext j
  unfold combF subF
  have hbj := hb j
  refine mod_cancel (z := b j) ?_
  obtain ⟨k, rfl⟩ : ∃ k, m = k + 1 := ⟨m - 1, by omega⟩
  rw [Nat.add_sub_cancel, show a j + b j * k + b j = a j + b j * (k + 1) from by rw [Nat.mul_add, Nat.mul_one]; omega, show a j + (k + 1) - b j + b j = a j + (k + 1) from by omega, Nat.add_mul_mod_self_right, Nat.add_mod_right]

theorem ok2 {m n nb : Nat} {a b : Nat → Nat} (hc : chk2 m n a nb b = 0) (ha : ∀ j, n ≤ j → a j = 0) (hb : ∀ j, nb ≤ j → b j = 0) : 2 ≤ m ∧ m ≤ 2147483647 ∧ n ≤ 256 ∧ nb ≤ 256 ∧ (∀ j, a j < m) ∧ (∀ j, b j < m) ∧ tl a n = n ∧ tl b nb = nb := by
  obtain ⟨hc1, hc2⟩ := chk2_zero hc
  obtain ⟨m1, m2, n1, n2, n3⟩ := chk_zero hc1
  obtain ⟨_, _, b1, b2, b3⟩ := chk_zero hc2
  exact ⟨m1, m2, n1, b1, vals_lt hc1 ha, vals_lt hc2 hb, tl_of_last n3, tl_of_last b3⟩

theorem addF_out {m n nb : Nat} {a b : Nat → Nat} (ha : ∀ j, n ≤ j → a j = 0) (hb : ∀ j, nb ≤ j → b j = 0) (j : Nat) (h1 : n ≤ j) (h2 : nb ≤ j) : addF m a b j = 0 := by
  unfold addF
  rw [ha j h1, hb j h2]
  simp
theorem addF_val {m x y : Nat} : ((x : Int) + (y : Int)) % (m : Int) = (((x + y) % m : Nat) : Int) := by simp

end Go.Proofs.Ytmidpholmgmdpaa

namespace Go.Proofs.Ytmidpholmgmdpaa
open Go.RowKit

/-- the value of the elements from t on -/
def horF (a : Nat → Nat) (x n t : Nat) : Nat := sumN (fun i => a (t + i) * x ^ i) (n - t)

theorem sumN_shift (f : Nat → Nat) : ∀ n, sumN f (n + 1) = f 0 + sumN (fun i => f (i + 1)) n
  | 0 => by simp [sumN]
  | n + 1 => by rw [sumN, sumN_shift f n, sumN, Nat.add_assoc]
theorem sumN_mul (c : Nat) (f : Nat → Nat) : ∀ n, sumN (fun i => c * f i) n = c * sumN f n
  | 0 => rfl
  | n + 1 => by rw [sumN, sumN, sumN_mul c f n, Nat.mul_add]
theorem horF_step (a : Nat → Nat) (x n t : Nat) (h : t < n) : horF a x n t = a t + horF a x n (t + 1) * x := by
  unfold horF
  obtain ⟨k, hk⟩ : ∃ k, n - t = k + 1 := ⟨n - t - 1, by omega⟩
  rw [hk, sumN_shift, show n - (t + 1) = k from by omega, Nat.pow_zero, Nat.mul_one, Nat.add_zero, Nat.mul_comm _ x, ← sumN_mul]
  congr 1
  exact sumN_congr k fun i _ => by rw [Nat.pow_succ, show t + (i + 1) = t + 1 + i from by omega, Nat.mul_comm (x ^ i) x, Nat.mul_left_comm]
theorem horF_end (a : Nat → Nat) (x n : Nat) : horF a x n n = 0 := by unfold horF; rw [Nat.sub_self]; rfl

/-- the value of a polynomial modulo m -/
def valF (m n : Nat) (a : Nat → Nat) (x : Nat) : Nat := sumN (fun i => a i * x ^ i) n % m
theorem valF_hor (m n : Nat) (a : Nat → Nat) (x : Nat) : horF a x n 0 % m = valF m n a x := by
  unfold horF valF
  rw [Nat.sub_zero]
  congr 1
  exact sumN_congr n fun i _ => by rw [Nat.zero_add]
theorem valF_lt {m : Nat} (hm : 0 < m) (n : Nat) (a : Nat → Nat) (x : Nat) : valF m n a x < m := Nat.mod_lt _ hm

def ValS (m n : Nat) (a : Nat → Nat) (x : Nat) (v i : Value) : Prop := ∃ t : Nat, t ≤ n ∧ i = .int .i64 ((t : Int) - 1) ∧ v = .int .u64 ((horF a x n t % m : Nat) : Int)

set_option maxHeartbeats 400000 in
theorem value_any (m n c x : Nat) (A : Option Addr) (a : Nat → Nat) (w : World) (lo hi : Nat) (h : Sq .u32 w lo hi A n a) (hm : 0 < m) (hm2 : m ≤ 2147483647) (hx : x < m) (haa : ∀ j, a j < m) (hn : n ≤ 2000) :
    Calls Try.prog 53 #[.int .u32 m, .slice A n c, .int .u32 x] w (RetP w (.int .u32 (valF m n a x : Nat))) := by
  go_enter Try.func53, Try.ntmps53
  go_wp2
  go_loop [7, 8] (ValS m n a x) (fun _ i => (intOf i + 1).toNat)
  case atStart => exact ⟨n, Nat.le_refl _, rfl, by rw [horF_end]; simp⟩
  case round =>
    obtain ⟨t, ht, rfl, rfl⟩ := hrel
    obtain ⟨z, hz⟩ : ∃ z, horF a x n t % m = z := ⟨_, rfl⟩
    have hzm : horF a x n t % m < m := Nat.mod_lt _ hm
    rw [hz] at hzm
    rw [hz]
    by_cases ht0 : 0 < t
    · obtain ⟨s, rfl⟩ : ∃ s, t = s + 1 := ⟨t - 1, by omega⟩
      have hs1 : (((s + 1 : Nat) : Int) - 1) = (s : Int) := by omega
      rw [hs1]
      clear hs1
      obtain ⟨g, off, rfl, _, _, hcell⟩ := h.2 (by omega)
      have hc1 := hcell s (by omega)
      obtain ⟨y, hy⟩ : ∃ y, a s = y := ⟨_, rfl⟩
      have hym := haa s
      rw [hy] at hc1 hym
      have hxy2 := mul_lt_int hzm hx hm2
      have hxy3 : 0 ≤ (z : Int) * (x : Int) := Int.mul_nonneg (Int.natCast_nonneg _) (Int.natCast_nonneg _)
      have hd1 : 0 ≤ ((z : Int) * (x : Int) + (y : Int)) % (m : Int) := Int.emod_nonneg _ (by omega)
      have hd2 : ((z : Int) * (x : Int) + (y : Int)) % (m : Int) < (m : Int) := Int.emod_lt_of_pos _ (by omega)
      have hS : horF a x n s % m = (z * x + y) % m := by
        rw [horF_step a x n s (by omega), ← hz, ← hy, Nat.add_comm, Nat.add_mod (horF a x n (s + 1) % m * x), Nat.mod_mul_mod, ← Nat.add_mod]
      have HS := Lib.hid hS
      clear hS hy hz hcell h haa
      go_wp2
      go_round
      case rel => exact ⟨s, by omega, rfl, by rw [HS.out]; simp⟩
      case measure => simp [intOf]
    · obtain rfl : t = 0 := by omega
      rw [valF_hor] at hz
      have HZ := Lib.hid hz
      clear hz h haa
      go_wp2
      go_ret
      exact ⟨by rw [HZ.out]; rfl, rfl⟩

def ValR (m n : Nat) (a : Nat → Nat) (x : Nat) (s p i : Value) : Prop := ∃ t : Nat, t ≤ n ∧ i = .int .i64 t ∧ s = .int .u64 ((sumN (fun i => a i * x ^ i) t % m : Nat) : Int) ∧ p = .int .u64 ((x ^ t % m : Nat) : Int)

def evE (m n : Nat) (a : Nat → Nat) (x : Nat) : Nat := if chk m n a = 0 then (if m ≤ x then 2 else 0) else chk m n a
def evV (m n : Nat) (a : Nat → Nat) (x : Nat) : Nat := if evE m n a x = 0 then valF m n a x else 0

end Go.Proofs.Ytmidpholmgmdpaa

namespace Go.Proofs.Ytmidpholmgmdpaa

theorem val_more {m n N : Nat} {a : Nat → Nat} {x : Nat} (hz : ∀ j, n ≤ j → a j = 0) (h : n ≤ N) : valF m N a x = valF m n a x := by
  unfold valF
  obtain ⟨d, rfl⟩ := Nat.exists_eq_add_of_le h
  rw [sumN_more d fun i h1 _ => by rw [hz i h1, Nat.zero_mul]]

theorem val_add {m N : Nat} {a b : Nat → Nat} {x : Nat} : valF m N (addF m a b) x = (valF m N a x + valF m N b x) % m := by
  unfold valF
  rw [← Nat.add_mod, ← sumN_add]
  refine sumN_mod N fun i _ => ?_
  unfold addF
  rw [Nat.mod_mul_mod, Nat.add_mul]

theorem sum_conv {a b : Nat → Nat} {n nb M : Nat} (ha : ∀ j, n ≤ j → a j = 0) (hb : ∀ j, nb ≤ j → b j = 0) (h : n + nb ≤ M) : sumN (conv a b) M = sumN a n * sumN b nb := by
  have e1 : sumN (conv a b) M = sumN (fun k => sumN (fun t => if t ≤ k then a t * b (k - t) else 0) M) M := by
    refine sumN_congr M fun k hk => ?_
    unfold conv
    obtain ⟨d, hd⟩ := Nat.exists_eq_add_of_le (show k + 1 ≤ M by omega)
    rw [hd, sumN_more d fun i h1 _ => if_neg (by omega)]
    exact sumN_congr _ fun i hi => by rw [if_pos (by omega)]
  rw [e1, sumN_swap]
  have e2 : ∀ t, t < M → sumN (fun k => if t ≤ k then a t * b (k - t) else 0) M = a t * sumN b nb := by
    intro t ht
    have e3 : ∀ q, sumN (fun k => if t ≤ k then a t * b (k - t) else 0) (t + q) = a t * sumN b q := by
      intro q
      induction q with
      | zero => rw [sumN_zero _ fun k hk => if_neg (by omega)]; rfl
      | succ q ih => rw [← Nat.add_assoc, sumN, ih, sumN, if_pos (by omega), Nat.add_sub_cancel_left, Nat.mul_add]
    obtain ⟨q, hq⟩ := Nat.exists_eq_add_of_le (Nat.le_of_lt ht)
    rw [hq, e3 q]
    rcases Nat.lt_or_ge t n with h1 | h1
    · obtain ⟨d, hd⟩ := Nat.exists_eq_add_of_le (show nb ≤ q by omega)
      rw [hd, sumN_more d fun i h2 _ => hb i h2]
    · rw [ha t h1, Nat.zero_mul, Nat.zero_mul]
  rw [sumN_congr M e2, sumN_mul_right]
  obtain ⟨d, hd⟩ := Nat.exists_eq_add_of_le (show n ≤ M by omega)
  rw [hd, sumN_more d fun i h2 _ => ha i h2]

theorem val_mul {m n nb M : Nat} {a b : Nat → Nat} {x : Nat} (ha : ∀ j, n ≤ j → a j = 0) (hb : ∀ j, nb ≤ j → b j = 0) (h : n + nb ≤ M) : valF m M (mulF m a b) x = valF m n a x * valF m nb b x % m := by
  unfold valF
  rw [← Nat.mul_mod, ← sum_conv (M := M) (fun j hj => by rw [ha j hj, Nat.zero_mul]) (fun j hj => by rw [hb j hj, Nat.zero_mul]) h]
  refine sumN_mod M fun k _ => ?_
  rw [mulF_conv, Nat.mod_mul_mod]
  congr 1
  unfold conv
  rw [← sumN_mul_right]
  refine sumN_congr _ fun t ht => ?_
  have e : x ^ k = x ^ t * x ^ (k - t) := by rw [← Nat.pow_add]; congr 1; omega
  rw [e, Nat.mul_assoc, Nat.mul_assoc, Nat.mul_left_comm (b _)]

/-- at a root of b a step of the division leaves the value -/
theorem val_dStep {m nb iv i N x : Nat} {b r : Nat → Nat} (hb : ∀ j, nb ≤ j → b j = 0) (hroot : valF m nb b x = 0) (hN : i + nb ≤ N) : valF m N (dStep m nb b iv i r) x = valF m N r x := by
  have e1 : valF m N (dStep m nb b iv i r) x = (sumN (fun j => r j * x ^ j) N + sumN (fun j => if i ≤ j then (m - dC m nb iv i r) * b (j - i) * x ^ j else 0) N) % m := by
    unfold valF
    rw [← sumN_add]
    refine sumN_mod N fun j _ => ?_
    unfold dStep
    split
    · rw [Nat.mod_mul_mod, Nat.add_mul]
    · rw [Nat.add_zero]
  have e2 : sumN (fun j => if i ≤ j then (m - dC m nb iv i r) * b (j - i) * x ^ j else 0) N = (m - dC m nb iv i r) * x ^ i * sumN (fun j => b j * x ^ j) nb := by
    have e3 : ∀ q, sumN (fun j => if i ≤ j then (m - dC m nb iv i r) * b (j - i) * x ^ j else 0) (i + q) = (m - dC m nb iv i r) * x ^ i * sumN (fun j => b j * x ^ j) q := by
      intro q
      induction q with
      | zero => rw [sumN_zero _ fun k hk => if_neg (by omega)]; rfl
      | succ q ih =>
        rw [← Nat.add_assoc, sumN, ih, sumN, if_pos (by omega), Nat.add_sub_cancel_left, Nat.mul_add, Nat.pow_add]
        congr 1
        rw [Nat.mul_assoc, Nat.mul_assoc]
        congr 1
        rw [Nat.mul_left_comm]
    obtain ⟨q, hq⟩ := Nat.exists_eq_add_of_le (show i ≤ N by omega)
    rw [hq, e3 q]
    obtain ⟨d, hd⟩ := Nat.exists_eq_add_of_le (show nb ≤ q by omega)
    rw [hd, sumN_more d fun j h2 _ => by rw [hb j h2, Nat.zero_mul]]
  rw [e1, e2, Nat.add_mod, Nat.mul_mod _ (sumN _ nb)]
  have e4 : sumN (fun j => b j * x ^ j) nb % m = 0 := hroot
  rw [e4, Nat.mul_zero, Nat.zero_mod, Nat.add_zero, Nat.mod_mod]
  rfl

theorem val_dR {m nb iv N x : Nat} {b : Nat → Nat} (hb : ∀ j, nb ≤ j → b j = 0) (hroot : valF m nb b x = 0) : ∀ i (r : Nat → Nat), i + nb ≤ N + 1 → valF m N (dR m nb b iv i r) x = valF m N r x
  | 0, _, _ => rfl
  | i + 1, r, h => by rw [dR, val_dR hb hroot i _ (by omega), val_dStep hb hroot (by omega)]

theorem val_low {m N x : Nat} {r : Nat → Nat} (hr : ∀ j, r j < m) (h : ∀ j, 1 ≤ j → r j = 0) (hN : 1 ≤ N) : valF m N r x = r 0 := by
  rw [val_more (n := 1) h hN]
  unfold valF
  simp [sumN, Nat.mod_eq_of_lt (hr 0)]
end Go.Proofs.Ytmidpholmgmdpaa

namespace Go.Proofs.Ytmidpholmgmdpaa
open Go.RowKit

def restP (m nb : Nat) (b : Nat → Nat) (iv : Nat) (p : Nat × (Nat → Nat)) : Nat × (Nat → Nat) := (tl (dR m nb b iv (dL p.1 nb) p.2) p.1, dR m nb b iv (dL p.1 nb) p.2)
def prodP (m : Nat) (p q : Nat × (Nat → Nat)) : Nat × (Nat → Nat) := (tl (mulF m p.2 q.2) (p.1 + q.1), mulF m p.2 q.2)
def powP (m nb : Nat) (b : Nat → Nat) (iv : Nat) : Nat → Nat → Nat × (Nat → Nat) → Nat × (Nat → Nat) → Nat × (Nat → Nat)
  | 0, _, o, _ => o
  | k + 1, N, o, x => if N = 0 then o else powP m nb b iv k (N / 2) (if N % 2 = 1 then restP m nb b iv (prodP m o x) else o) (restP m nb b iv (prodP m x x))

theorem powP_succ {m nb iv k N : Nat} {b : Nat → Nat} {o x : Nat × (Nat → Nat)} : powP m nb b iv (k + 1) N o x = if N = 0 then o else powP m nb b iv k (N / 2) (if N % 2 = 1 then restP m nb b iv (prodP m o x) else o) (restP m nb b iv (prodP m x x)) := rfl
theorem powP_zero {m nb iv : Nat} {b : Nat → Nat} {o x : Nat × (Nat → Nat)} : ∀ k, powP m nb b iv k 0 o x = o
  | 0 => rfl
  | _ + 1 => if_pos rfl

/-- a list of residues that ends in no zero -/
def Res (m : Nat) (p : Nat × (Nat → Nat)) : Prop := (∀ j, p.2 j < m) ∧ (∀ j, p.1 ≤ j → p.2 j = 0) ∧ tl p.2 p.1 = p.1

theorem res_rest {m nb iv : Nat} {b : Nat → Nat} {p : Nat × (Nat → Nat)} (h : Res m p) (hm : 0 < m) (hnb : 0 < nb) (hiv : iv * b (nb - 1) % m = 1 % m) (hb : ∀ j, nb ≤ j → b j = 0) :
    Res m (restP m nb b iv p) ∧ (restP m nb b iv p).1 < nb ∧ (restP m nb b iv p).1 ≤ p.1 := by
  obtain ⟨n, f⟩ := p
  obtain ⟨h1, h2, h3⟩ := h
  have hhigh : ∀ j, nb - 1 ≤ j → dR m nb b iv (dL n nb) f j = 0 := dR_high hm hnb hiv hb _ f h1 fun j hj => h2 j (by unfold dL at hj; show n ≤ j; omega)
  have hout : ∀ j, n ≤ j → dR m nb b iv (dL n nb) f j = 0 := fun j hj => by
    rcases Nat.lt_or_ge n nb with h | h
    · rw [show dL n nb = 0 from by unfold dL; omega]
      exact h2 j hj
    · exact hhigh j (by omega)
  refine ⟨⟨dR_lt hm _ _ h1, fun j hj => ?_, tl_tl _ _⟩, ?_, tl_le _ _⟩
  · rcases Nat.lt_or_ge j n with h | h
    · exact tl_zero _ n j hj h
    · exact hout j h
  · show tl (dR m nb b iv (dL n nb) f) n < nb
    rcases Nat.lt_or_ge (tl (dR m nb b iv (dL n nb) f) n) nb with h | h
    · exact h
    · exact absurd (hhigh _ (by omega)) (tl_last (dR m nb b iv (dL n nb) f) n (by omega))
theorem res_prod {m : Nat} {p q : Nat × (Nat → Nat)} (hp : Res m p) (hq : Res m q) (hm : 0 < m) : Res m (prodP m p q) ∧ (prodP m p q).1 ≤ p.1 + q.1 := by
  refine ⟨⟨mulF_lt hm _ _, fun j hj => ?_, tl_tl _ _⟩, tl_le _ _⟩
  rcases Nat.lt_or_ge j (p.1 + q.1) with h | h
  · exact tl_zero _ _ j hj h
  · exact mulF_ext hp.2.1 hq.2.1 j (by omega)
theorem res_one {m : Nat} (hm : 2 ≤ m) : Res m (1, oneF 1) := by
  refine ⟨fun j => ?_, fun j hj => ?_, ?_⟩
  · show oneF 1 j < m
    unfold oneF
    split <;> omega
  · show oneF 1 j = 0
    unfold oneF
    exact if_neg (by have : 1 ≤ j := hj; omega)
  · rfl

end Go.Proofs.Ytmidpholmgmdpaa

namespace Go.Proofs.Ytmidpholmgmdpaa
open Go.RowKit

def gcdP (m : Nat) : Nat → Nat × (Nat → Nat) → Nat × (Nat → Nat) → Nat × (Nat → Nat)
  | 0, x, _ => x
  | k + 1, x, y => if y.1 = 0 then x else gcdP m k y (restP m y.1 y.2 (unitF m y.1 y.2).1 x)
theorem gcdP_zero {m : Nat} {x y : Nat × (Nat → Nat)} (h : y.1 = 0) : ∀ k, gcdP m k x y = x
  | 0 => rfl
  | _ + 1 => if_pos h
theorem gcdP_succ {m k : Nat} {x y : Nat × (Nat → Nat)} (h : y.1 ≠ 0) : gcdP m (k + 1) x y = gcdP m k y (restP m y.1 y.2 (unitF m y.1 y.2).1 x) := if_neg h

/-- modulo a prime each leading element has its inverse -/
theorem unit_prime {m n : Nat} {f : Nat → Nat} (hp : Mr.Pr m) (hr : Res m (n, f)) (hn : 0 < n) : ∃ iv, unitF m n f = (iv, true) ∧ iv < m ∧ iv * f (n - 1) % m = 1 % m := by
  obtain ⟨h1, _, h3⟩ := hr
  have h0 : f (n - 1) ≠ 0 := by
    have h4 := tl_last f n (by show 0 < tl f n; rw [show tl f n = n from h3]; exact hn)
    rw [show tl f n = n from h3] at h4
    exact h4
  have hlt : f (n - 1) < m := h1 _
  have hg : Nat.gcd m (f (n - 1)) = 1 := hp.coprime fun hd => by have := Nat.le_of_dvd (by omega) hd; omega
  have hu := unitF_yes hn hg
  obtain ⟨_, a2, a3⟩ := unitF_true hu hp.1 hlt
  exact ⟨_, hu, a2, a3⟩
/-- the result: the last rest, with leading element 1 -/
def gcdF (m n : Nat) (a : Nat → Nat) (nb : Nat) (b : Nat → Nat) : Nat × (Nat → Nat) :=
  let x := gcdP m 301 (n, a) (nb, b)
  if x.1 = 0 then (0, fun _ => 0) else prodP m x (1, oneF (unitF m x.1 x.2).1)
end Go.Proofs.Ytmidpholmgmdpaa
