/- The contract of modular.Factors. -/
/- The contracts of modular.apart and of the reference's Common. -/
/- The contract of modular.Root. -/
import Derived.Test.YtkklacgoeopekaaDivisors
import Derived.Test.YtkklacgoeopekaaMrK
import Derived.RangeFuncBox
import Derived.OwnWalk
import Derived.Test.YtkklacgoeopekaaCombine
import Derived.Test.YtkklacgoeopekaaProduct
namespace Go.Proofs.Ytkklacgoeopekaa
open Go.RowKit Go.Shelf Go.Sort
set_option linter.unusedVariables false
attribute [local go_sem] Oper.semAt_some

theorem divisors_any (w : World) : Calls Try.prog 65 #[] w fun e w' => e = .returned (.func (.func 81) #[] #[]) ∧ w' = w := by
  go_enter Try.func65, Try.ntmps65
  go_wp2
  go_ret
  exact ⟨rfl, rfl⟩

def cellsOf (l : List (Nat × Nat)) : List Value := l.flatMap fun x => [.int .u32 (x.1 : Int), .int .i64 (x.2 : Int)]
theorem cellsOf_snoc (l : List (Nat × Nat)) (x : Nat × Nat) : cellsOf (l ++ [x]) = cellsOf l ++ [.int .u32 (x.1 : Int), .int .i64 (x.2 : Int)] := by
  unfold cellsOf
  rw [List.flatMap_append]
  rfl
theorem cellsOf_len (l : List (Nat × Nat)) : (cellsOf l).length = l.length * 2 := by
  induction l with
  | nil => rfl
  | cons x l ih =>
    show (_ :: _ :: cellsOf l).length = (l.length + 1) * 2
    rw [List.length_cons, List.length_cons, ih]
    omega

/-- what trial division has made of N in memory: what is left, and the list so far -/
structure FSw (w : World) (N : Nat) (nn : Nat) (l : List (Nat × Nat)) (v : Value) (W : World) : Prop where
  pos : 0 < nn
  len : nn * 2 ^ l.length ≤ N
  b1 : Boxed W w.heap.size 22 (.int .u32 (nn : Int))
  b2 : Boxed W (w.heap.size + 1) 67 v
  row : W.ownsRow w.heap.size 72 2 v l.length (cellsOf l)
  bel : Below w.heap.size w W

theorem cell_two_new (W : World) (u v : Value) (t : TypeId) : ∀ (j : Nat) (x : Value), [u, v][j]? = some x → (W.alloc (.cells #[u, v] t)).cell? ((⟨W.heap.size, 0, none⟩ : Addr).add j) = some x := by
  intro j x hx
  have e : (⟨W.heap.size, 0, none⟩ : Addr).add j = ⟨W.heap.size, j, none⟩ := by
    unfold Addr.add
    split
    · have : j = 0 := by assumption
      subst this
      rfl
    · simp
  rw [e, World.cell?_alloc_new]
  match j, hx with
  | 0, hx => exact hx
  | 1, hx => exact hx
theorem ne_row {A : World} {b : Nat} {cs : Array Value} {e : TypeId} {z : Nat × Nat} {row : Option Nat} (h : A.heap[b]? = some (.cells cs e z)) (hr : ∀ r, row = some r → ∃ o : Obj, A.heap[r]? = some o ∧ o.isCells = false) : some b ≠ row := fun e' => by
  obtain ⟨o, ho, hc⟩ := hr b e'.symm
  rw [h] at ho
  cases ho
  cases hc
theorem own_kept {A B : World} {base size n : Nat} {e : TypeId} {v : Value} {xs : List Value} {row : Option Nat} (h : A.ownsRow base e size v n xs) (hg : A.grownBy B row) (hr : ∀ r, row = some r → ∃ o : Obj, A.heap[r]? = some o ∧ o.isCells = false) : B.ownsRow base e size v n xs := by
  refine h.kept hg ?_
  rcases h.2 with ⟨rfl, _⟩ | ⟨g, cap, cur, rfl, _, hgb, _⟩
  · exact .inl rfl
  · exact .inr fun e' => ne_row hgb hr (by simpa [Value.ownBlock] using e')
theorem FSw.kept {w A B : World} {N nn : Nat} {l : List (Nat × Nat)} {v : Value} {row : Option Nat} (h : FSw w N nn l v A) (hg : A.grownBy B row) (hr : ∀ r, row = some r → w.heap.size ≤ r ∧ ∃ o : Obj, A.heap[r]? = some o ∧ o.isCells = false) : FSw w N nn l v B where
  pos := h.pos
  len := h.len
  b1 := h.b1.kept hg (ne_row h.b1 fun r e => (hr r e).2)
  b2 := h.b2.kept hg (ne_row h.b2 fun r e => (hr r e).2)
  row := own_kept h.row hg fun r e => (hr r e).2
  bel := h.bel.grown hg h.bel.size fun k e => (hr k e).1

theorem pow_bound {d kk n2 nn : Nat} (hd : 2 ≤ d) (h : nn = d ^ kk * n2) (h2 : 0 < n2) (hn : nn ≤ 4294967295) : kk ≤ 31 := by
  rcases Nat.lt_or_ge 31 kk with h1 | h1
  · have h3 : 2 ^ 32 ≤ 2 ^ kk := Nat.pow_le_pow_right (by omega) h1
    have h4 : 2 ^ kk ≤ d ^ kk := Nat.pow_le_pow_left hd kk
    have h5 : d ^ kk * 1 ≤ d ^ kk * n2 := Nat.mul_le_mul_left _ h2
    omega
  · exact h1
theorem el_next (j : Nat) : el (j + 1) = el j + 1 ∨ (el (j + 1) = el j + 2 ∧ 2 ∣ el j + 1 ∧ 3 ≤ el j) := by
  cases j with
  | zero => exact .inl rfl
  | succ j => exact .inr ⟨by show 2 * (j + 1) + 3 = 2 * j + 3 + 2; omega, ⟨j + 2, by show 2 * j + 3 + 1 = _; omega⟩, by show 3 ≤ 2 * j + 3; omega⟩
/-- even numbers may be passed over -/
theorem TD.next {N j n : Nat} {l : List (Nat × Nat)} (h : TD N (el j + 1) n l) (hN : 0 < N) : TD N (el (j + 1)) n l := by
  rcases el_next j with e | ⟨e, h2, h3⟩
  · rw [e]; exact h
  · rw [e]
    refine h.pass hN fun hd => ?_
    have hp := h.prime (by omega) hd
    rcases hp.2 2 h2 with h4 | h4 <;> omega

theorem len_bound {nn k N : Nat} (h : nn * 2 ^ k ≤ N) (hn : 0 < nn) (hN : N ≤ 4294967295) : k ≤ 31 := by
  rcases Nat.lt_or_ge 31 k with h1 | h1
  · have h3 : 2 ^ 32 ≤ 2 ^ k := Nat.pow_le_pow_right (by omega) h1
    have h4 : 1 * 2 ^ k ≤ nn * 2 ^ k := Nat.mul_le_mul_right _ hn
    omega
  · exact h1
theorem len_take {nn n2 d kk k N : Nat} (h : nn * 2 ^ k ≤ N) (hnd : nn = d ^ kk * n2) (hd : 2 ≤ d) (hk : kk ≠ 0) : n2 * 2 ^ (k + 1) ≤ N := by
  have h1 : 2 ^ 1 ≤ d ^ kk := Nat.le_trans (Nat.pow_le_pow_left hd 1) (Nat.pow_le_pow_right (by omega) (by omega))
  have h2 : 2 * n2 ≤ nn := by rw [hnd]; exact Nat.mul_le_mul_right n2 h1
  have h3 : 2 * n2 * 2 ^ k ≤ nn * 2 ^ k := Nat.mul_le_mul_right _ h2
  have h4 : n2 * 2 ^ (k + 1) = 2 * n2 * 2 ^ k := by rw [Nat.pow_succ, ← Nat.mul_assoc, Nat.mul_comm, ← Nat.mul_assoc]
  omega

/-- a list of primes and exponents in memory -/
def Pw (w : World) (lo hi : Nat) (A : Option Addr) (l : List (Nat × Nat)) : Prop :=
  l ≠ [] → ∃ b, A = some ⟨b, 0, none⟩ ∧ lo ≤ b ∧ b < hi ∧ ∀ i x, l[i]? = some x → w.cell? ⟨b, i * 2, none⟩ = some (.int .u32 (x.1 : Int)) ∧ w.cell? ⟨b, i * 2 + 1, none⟩ = some (.int .i64 (x.2 : Int))
theorem cellsOf_get : ∀ (l : List (Nat × Nat)) (i : Nat) (x : Nat × Nat), l[i]? = some x → (cellsOf l)[2 * i]? = some (.int .u32 (x.1 : Int)) ∧ (cellsOf l)[2 * i + 1]? = some (.int .i64 (x.2 : Int))
  | [], i, x, h => by simp at h
  | y :: l, 0, x, h => by
    obtain rfl : y = x := by simpa using h
    exact ⟨rfl, rfl⟩
  | y :: l, i + 1, x, h => by
    have h1 := cellsOf_get l i x (by simpa using h)
    have e : cellsOf (y :: l) = [.int .u32 (y.1 : Int), .int .i64 (y.2 : Int)] ++ cellsOf l := rfl
    rw [e, List.getElem?_append_right (by simp; omega), List.getElem?_append_right (by simp; omega)]
    exact ⟨by simpa [show 2 * (i + 1) - 2 = 2 * i from by omega] using h1.1, by simpa [show 2 * (i + 1) + 1 - 2 = 2 * i + 1 from by omega] using h1.2⟩
theorem pw_of {w : World} {base n : Nat} {e : TypeId} {l : List (Nat × Nat)} {v : Value} (hn : n = l.length) (h : w.ownsRow base e 2 v n (cellsOf l)) : ∃ A c, v = .slice A n c ∧ n ≤ c ∧ Pw w base w.heap.size A l := by
  subst hn
  rcases h.2 with ⟨rfl, h0⟩ | ⟨g, cap, cur, rfl, hb, hh, hnc, _, hs, ht⟩
  · exact ⟨none, 0, by rw [h0], by omega, fun hne => absurd (List.length_eq_zero_iff.1 h0) hne⟩
  · refine ⟨_, _, rfl, hnc, fun _ => ⟨g, rfl, hb, (Array.getElem?_eq_some_iff.1 hh).1, fun i x hx => ?_⟩⟩
    obtain ⟨h1, h2⟩ := cellsOf_get l i x hx
    have hlt : i < l.length := (List.getElem?_eq_some_iff.1 hx).1
    have key : ∀ j, j < l.length * 2 → w.cell? ⟨g, j, none⟩ = (cellsOf l)[j]? := fun j hj => by
      rw [← ht, List.getElem?_take_of_lt hj, Array.getElem?_toList]
      simp [World.cell?, hh]
    rw [Nat.mul_comm] at h1 h2
    exact ⟨(key _ (by omega)).trans h1, (key _ (by omega)).trans h2⟩

/-- what Factors answers -/
def FacR (N E : Nat) (l : List (Nat × Nat)) : Prop := (N = 0 ∧ E = 2 ∧ l = []) ∨ (0 < N ∧ E = 0 ∧ FacTo N (N + 1) l ∧ l.length ≤ 40)
def RetFac (w : World) (N : Nat) (e : Ending) (w' : World) : Prop :=
  ∃ A c E l, e = .returned (.tuple #[.slice A l.length c, .int .i64 ((E : Nat) : Int)]) ∧ l.length ≤ c ∧ Pw w' w.heap.size w'.heap.size A l ∧ FacR N E l ∧ Below w.heap.size w w'

set_option maxRecDepth 100000 in
set_option maxHeartbeats 2000000 in
theorem factors_any (n : Nat) (w : World) (hn : n ≤ 4294967295) :
    Calls Try.prog 45 #[.int .u32 n] w (RetFac w n) := by
  obtain ⟨i0, hi, hz0, hz1, hz2⟩ := info_parts (P := Try.prog) (e := 72) (z := .agg #[.int .u32 0, .int .i64 0]) (size := 2) (bytes := 16) (by kernel_rfl)
  refine calls_of_marks Try.func45 rfl ?_
  simp only [Try.ntmps45, List.size_toArray, List.length_cons, List.length_nil, Nat.reduceAdd, Nat.reduceSub, Array.replicate_succ, Array.replicate_zero, List.push_toArray, List.append_toArray, List.nil_append, List.cons_append]
  by_cases h0 : n = 0
  · subst h0
    go_wp2_with fail
    refine marks_end rfl (.tuple #[.slice none 0 0, .int .i64 2]) (by simp [results, Try.f45, go_sem]) ?_
    exact ⟨none, 0, 2, [], rfl, Nat.le_refl _, fun h => absurd rfl h, .inl ⟨rfl, rfl, rfl⟩, (Below.refl _ _).alloc (Nat.le_refl _) _⟩
  have q0 : ((n : Int) == 0) = false := by simp; omega
  go_wp2_with fail
  refine (divisors_any _).mono ?_
  rintro e w6 ⟨rfl, hw6⟩
  have bN := Boxed.new w 22 (.int .u32 (n : Int))
  have bO := Boxed.new (w.alloc (.cells #[.int .u32 (n : Int)] 22)) 67 (.slice none 0 0)
  rw [World.size_alloc] at bO
  have bN := bN.alloc (.cells #[.slice none 0 0] 67)
  have hB0 : Below w.heap.size w ((w.alloc (.cells #[.int .u32 (n : Int)] 22)).alloc (.cells #[.slice none 0 0] 67)) := ((Below.refl _ w).alloc (Nat.le_refl _) _).alloc (by rw [World.size_alloc]; omega) _
  have hz6 : ((w.alloc (.cells #[.int .u32 (n : Int)] 22)).alloc (.cells #[.slice none 0 0] 67)).heap.size = w.heap.size + 2 := by rw [World.size_alloc, World.size_alloc]
  rw [← hw6] at bN bO hB0 hz6
  clear hw6
  have fs0 : FSw w n n [] (.slice none 0 0) w6 := ⟨by omega, by simp, bN, bO, World.ownsRow_nil _ _ _ _, hB0⟩
  have HFS := Lib.hid fs0
  clear bN bO hB0 fs0
  go_wp2_with fail
  refine wp_rangeFunc_own (gf := 81) (lb := #[]) rfl (enters_of Try.func81 (by kernel_rfl) rfl) (divisors_stops (Kp := Below w.heap.size) Fence.wide 8 trivial rfl (by omega) w6) belowK_t (belowK_b (by omega)) (Below.refl _ _) (fun _ => rfl)
    (fun pre W => ∃ nn l v, FSw w n nn l v W ∧ (Can pre → TD n (el pre.length) nn l))
    (fun c pre W => c = .exit 0 ∧ ∃ nn l v, FSw w n nn l v W ∧ (Can pre → ∃ d, TD n d nn l ∧ nn < d * d))
    (fun s A B row hs hg hr => by
      obtain ⟨nn, l, v, hf, ht⟩ := hs
      exact ⟨nn, l, v, hf.kept hg fun r e => ⟨by have := (hr r e).1; omega, (hr r e).2⟩, ht⟩)
    (fun c s A B row hs hg hr => by
      obtain ⟨hc, nn, l, v, hf, ht⟩ := hs
      exact ⟨hc, nn, l, v, hf.kept hg fun r e => ⟨by have := (hr r e).1; omega, (hr r e).2⟩, ht⟩)
    ⟨n, [], _, HFS.out, fun _ => TD.start⟩ ?ab ?done ?stop
  case ab =>
    apply Exists.intro
    refine ⟨?_, ?_⟩
    · intro l q W K hK
      simp only [encD]
      gi_wp2
      exact hK
    · rintro lr pre q W ⟨nn, l, v, hf, ht⟩ _
      obtain ⟨d, hd2, hd3⟩ := q
      have c1 := hf.b1.cell
      have hnn : nn ≤ n := Nat.le_trans (Nat.le_mul_of_pos_right nn (Nat.two_pow_pos _)) hf.len
      have hnp := hf.pos
      have HF := Lib.hid hf
      have HT := Lib.hid ht
      have hdd : 0 ≤ (d : Int) * (d : Int) ∧ (d : Int) * (d : Int) ≤ 18446744065119617025 := mul_lt_int32 (by omega) (by omega)
      clear hf ht HFS
      simp only
      by_cases hbr : nn < d * d
      · have q1 : decide ((d : Int) * (d : Int) > (nn : Int)) = true := decide_eq_true (by exact_mod_cast hbr)
        gi_wp2
        exact ⟨KeepsOthers.refl _, rfl, nn, l, v, HF.out, fun hc => ⟨d, by have h1 : d = el pre.length := hc.init.2; rw [h1]; exact HT.out hc.init.1, hbr⟩⟩
      · have q1 : decide ((d : Int) * (d : Int) > (nn : Int)) = false := decide_eq_false (by exact_mod_cast hbr)
        gi_wp2
        gi_loopw [6] (fun p wr => ∃ (kk n2 : Nat), p = .int .i64 (kk : Int) ∧ nn = d ^ kk * n2 ∧ 0 < n2 ∧ Boxed wr w.heap.size 22 (.int .u32 (n2 : Int)) ∧ Boxed wr (w.heap.size + 1) 67 v ∧ wr.ownsRow w.heap.size 72 2 v l.length (cellsOf l) ∧
          KeepsOthers W wr ∧ Below w.heap.size W wr) (fun p _ => 64 - (intOf p).toNat)
        case atStart => exact ⟨0, nn, rfl, by rw [Nat.pow_zero, Nat.one_mul], hnp, HF.out.b1, HF.out.b2, HF.out.row, KeepsOthers.refl _, Below.refl _ _⟩
        case round =>
          obtain ⟨kk, n2, rfl, hnd, hn2, b1, b2, hrow, hko, hbl⟩ := hrel
          have hkb := pow_bound hd2 hnd hn2 (by omega)
          have hn2n : n2 ≤ nn := by rw [hnd]; exact Nat.le_mul_of_pos_left _ (Nat.pos_of_ne_zero fun h => by rw [h, Nat.zero_mul] at hnd; omega)
          have c1 := b1.cell
          have f1 := b1.frozen
          have HND := Lib.hid hnd
          have HR := Lib.hid (And.intro b1 (And.intro b2 (And.intro hrow (And.intro hko hbl))))
          clear hnd b1 b2 hrow hko hbl
          by_cases hdv : d ∣ n2
          · obtain ⟨q, hq⟩ := hdv
            have hq0 : 0 < q := Nat.pos_of_ne_zero fun h => by rw [h, Nat.mul_zero] at hq; omega
            have hmod : (n2 : Int) % (d : Int) = 0 := by rw [hq, Int.natCast_mul]; exact Int.mul_emod_right _ _
            have hmodt : (n2 : Int).tmod (d : Int) = 0 := by rw [Int.tmod_eq_emod_of_nonneg (by omega), hmod]
            have hquo : (n2 : Int) / (d : Int) = (q : Int) := by rw [hq, Int.natCast_mul]; exact Int.mul_ediv_cancel_left _ (by omega)
            have hquot : (n2 : Int).tdiv (d : Int) = (q : Int) := by rw [Int.tdiv_eq_ediv_of_nonneg (by omega), hquo]
            have hd0 : ¬ d = 0 := by omega
            have hqn : q ≤ n2 := by rw [hq]; exact Nat.le_mul_of_pos_left _ (by omega)
            have HQ := Lib.hid hq
            clear hq
            gi_wp2
            go_roundw
            case rel =>
              obtain ⟨b1, b2, hrow, hko, hbl⟩ := HR.out
              have g1 := grownBy_setCell' wr w.heap.size (.int .u32 (q : Int))
              exact ⟨kk + 1, q, by go_num, by rw [HND.out, HQ.out, Nat.pow_succ, Nat.mul_assoc], hq0, b1.set _, b2.kept g1 (by simp), hrow.kept g1 (.inr (b1.not_row (by decide) hrow).symm), hko.trans (KeepsOthers.setCell _ _ _), hbl.setCell (p := ⟨w.heap.size, 0, none⟩) (Nat.le_refl _) _⟩
            case measure => simp only [intOf]; omega
          · have hr0 : 0 < n2 % d := Nat.pos_of_ne_zero fun h => hdv (Nat.dvd_of_mod_eq_zero h)
            obtain ⟨r, hr⟩ : ∃ r, n2 % d = r := ⟨_, rfl⟩
            rw [hr] at hr0
            have hmod : (n2 : Int) % (d : Int) = (r : Int) := by rw [← hr]; simp
            have hmodt : (n2 : Int).tmod (d : Int) = (r : Int) := by rw [Int.tmod_eq_emod_of_nonneg (by omega), hmod]
            have hd0 : ¬ d = 0 := by omega
            have hre : ((r : Int) == 0) = false := by simp; omega
            have hrz : ¬ (r : Int) = 0 := by omega
            clear hr
            by_cases hk0 : kk = 0
            · subst hk0
              rw [Nat.pow_zero, Nat.one_mul] at HND
              gi_wp2
              obtain ⟨b1, b2, hrow, hko, hbl⟩ := HR.out
              have hnn2 : nn = n2 := HND.out
              subst hnn2
              refine ⟨hko, hbl, nn, l, v, ⟨hnp, HF.out.len, b1, b2, hrow, HF.out.bel.trans hbl⟩, fun hc => ?_⟩
              have h1 : d = el pre.length := hc.init.2
              rw [List.length_append, List.length_singleton]
              exact ((HT.out hc.init.1).pass (by omega) (by rw [← h1]; exact hdv)).next (by omega)
            · have hk1 : decide ((kk : Int) > 0) = true := decide_eq_true (by omega)
              obtain ⟨b1, b2, hrow, hko, hbl⟩ := HR.out
              have c2 := b2.cell
              have hll := len_bound HF.out.len hnp hn
              have hsz := HF.out.bel.size
              have hsz2 := hbl.size
              gi_wp2_with (gi_at_builtin; refine wpListIn_append_own _ rfl _ _ 67 rfl w.heap.size 72 i0 (.agg #[.int .u32 0, .int .i64 0]) 2 16 Try.underlying67 hi hz0 hz1 hz2 rfl (by decide) _ _ _ rfl (hrow.alloc _) ⟨wr.heap.size, 0, none⟩ 1 1 [.int .u32 (d : Int), .int .i64 (kk : Int)] rfl rfl (cell_two_new _ _ _ _) (by simp [Value.oneCell']) (by unfold maxLen; omega) (by omega) (by simp; omega) ?_; intro v' w1 hown' hgrow _; obtain ⟨g', cap', rfl⟩ := ownsRow_succ hown'; obtain ⟨hv1, hv2, hr2, hk2, hb2⟩ := b2.appended (by decide) hrow (by omega) (by omega) hown' hgrow; have hc1 := hv1.cell; have hf1 := hv1.frozen; have hb1' := (b1.alloc _).kept hgrow (b1.not_row (by decide) hrow))
              refine ⟨hko.trans hk2, hbl.trans hb2, n2, l ++ [(d, kk)], _, ⟨hn2, ?_, hb1'.kept (grownBy_setCell' w1 (w.heap.size + 1) _) (by simp), hv2, ?_, HF.out.bel.trans (hbl.trans hb2)⟩, fun hc => ?_⟩
              · rw [List.length_append, List.length_singleton]
                exact len_take HF.out.len HND.out hd2 hk0
              · rw [List.length_append, List.length_singleton, cellsOf_snoc]
                exact hr2
              · have h1 : d = el pre.length := hc.init.2
                rw [List.length_append, List.length_singleton]
                have h2 := (HT.out hc.init.1).take (k := kk) (n' := n2) (by rw [← h1]; exact hd2) (by omega) (by rw [← h1]; exact HND.out) (by rw [← h1]; exact hdv)
                rw [← h1] at h2
                exact TD.next (by rw [← h1]; exact h2) (by omega)
  case done =>
    rintro D ys W hD ⟨hcan, hlen⟩ ⟨nn, l, v, hf, ht⟩ hK
    have htd : ∃ d, TD n d nn l ∧ nn < d * d := ⟨65537, by have := ht hcan; rw [hlen] at this; exact this, by
      have := Nat.le_trans (Nat.le_mul_of_pos_right nn (Nat.two_pow_pos _)) hf.len
      omega⟩
    clear ht HFS
    have hnn : nn ≤ n := Nat.le_trans (Nat.le_mul_of_pos_right nn (Nat.two_pow_pos _)) hf.len
    have hll := len_bound hf.len hf.pos hn
    have hsz := hf.bel.size
    have c1 := hf.b1.cell
    have c2 := hf.b2.cell
    have f2 := hf.b2.frozen
    have hnp := hf.pos
    by_cases h1 : 1 < nn
    · have q1 : decide ((nn : Int) > 1) = true := decide_eq_true (by omega)
      have hfac : FacTo n (n + 1) (l ++ [(nn, 1)]) := by
        obtain ⟨d, h2, h3⟩ := htd
        obtain ⟨h4, h5⟩ := h2.rest h1 h3
        exact h2.last (by omega) h4 h5
      have HFAC := Lib.hid hfac
      have HF := Lib.hid hf
      clear hfac htd hf
      go_wp2_with (at_builtin; refine wpList_append_own_at _ rfl _ _ 67 rfl w.heap.size 72 i0 (.agg #[.int .u32 0, .int .i64 0]) 2 16 Try.underlying67 hi hz0 hz1 hz2 rfl (by decide) _ _ _ rfl (HF.out.row.alloc _) ⟨W.heap.size, 0, none⟩ 1 1 [.int .u32 (nn : Int), .int .i64 1] rfl rfl (cell_two_new _ _ _ _) (by simp [Value.oneCell']) (by unfold maxLen; omega) (by omega) (by simp; omega) ?_; intro v' w1 hown' hgrow _ _; obtain ⟨g', cap', rfl⟩ := ownsRow_succ hown'; obtain ⟨hv1, hv2, hr2, hk2, hb2⟩ := HF.out.b2.appended (by decide) HF.out.row (by omega) (by omega) hown' hgrow; have hc1 := hv1.cell; have hf1 := hv1.frozen; have hc2 := hv2.cell)
      have hK' := hk2.same D _ hK rfl
      have hr3 := ownsRow_putObj hr2 (.deferred none) hK' rfl
      have e : cellsOf l ++ [.int .u32 (nn : Int), .int .i64 1] = cellsOf (l ++ [(nn, 1)]) := (cellsOf_snoc l (nn, 1)).symm
      have e2 : l.length + 1 = (l ++ [(nn, 1)]).length := by rw [List.length_append, List.length_singleton]
      rw [e] at hr3
      obtain ⟨A, c, hv, hc, hpw⟩ := pw_of e2 hr3
      injection hv with hv1 hv2 hv3
      subst hv1 hv3
      refine marks_end1 rfl hK' (.tuple #[.slice (some ⟨g', 0, none⟩) (l.length + 1) cap', .int .i64 0]) (by simp [results, Try.f45, go_sem]) ?_
      exact ⟨_, cap', 0, l ++ [(nn, 1)], by rw [← e2]; rfl, by rw [← e2]; exact hc, hpw, .inr ⟨by omega, rfl, HFAC.out, by rw [← e2]; omega⟩, below_shut (HF.out.bel.trans hb2) (by omega) hK'⟩
    · have q1 : decide ((nn : Int) > 1) = false := decide_eq_false (by omega)
      have h1' : nn = 1 := by omega
      have hfac : FacTo n (n + 1) l := by
        obtain ⟨d, h2, h3⟩ := htd
        rw [h1'] at h2
        exact h2.over (by omega)
      have hr3 := ownsRow_putObj hf.row (.deferred none) hK rfl
      obtain ⟨A, c, rfl, hc, hpw⟩ := pw_of rfl hr3
      have hbb := below_shut hf.bel (by omega) hK
      have H := Lib.hid (And.intro hfac (And.intro hpw hbb))
      clear hfac htd hf hr3 hpw hbb
      go_wp2
      refine marks_end1 rfl hK (.tuple #[.slice A l.length c, .int .i64 0]) (by simp [results, Try.f45, go_sem]) ?_
      exact ⟨A, c, 0, l, rfl, hc, H.out.2.1, .inr ⟨by omega, rfl, H.out.1, by omega⟩, H.out.2.2⟩
  case stop =>
    rintro D c pre W hD hcan ⟨rfl, nn, l, v, hf, ht⟩ hK
    have htd := ht hcan
    clear ht HFS
    have hnn : nn ≤ n := Nat.le_trans (Nat.le_mul_of_pos_right nn (Nat.two_pow_pos _)) hf.len
    have hll := len_bound hf.len hf.pos hn
    have hsz := hf.bel.size
    have c1 := hf.b1.cell
    have c2 := hf.b2.cell
    have f2 := hf.b2.frozen
    have hnp := hf.pos
    by_cases h1 : 1 < nn
    · have q1 : decide ((nn : Int) > 1) = true := decide_eq_true (by omega)
      have hfac : FacTo n (n + 1) (l ++ [(nn, 1)]) := by
        obtain ⟨d, h2, h3⟩ := htd
        obtain ⟨h4, h5⟩ := h2.rest h1 h3
        exact h2.last (by omega) h4 h5
      have HFAC := Lib.hid hfac
      have HF := Lib.hid hf
      clear hfac htd hf
      go_wp2_with (at_builtin; refine wpList_append_own_at _ rfl _ _ 67 rfl w.heap.size 72 i0 (.agg #[.int .u32 0, .int .i64 0]) 2 16 Try.underlying67 hi hz0 hz1 hz2 rfl (by decide) _ _ _ rfl (HF.out.row.alloc _) ⟨W.heap.size, 0, none⟩ 1 1 [.int .u32 (nn : Int), .int .i64 1] rfl rfl (cell_two_new _ _ _ _) (by simp [Value.oneCell']) (by unfold maxLen; omega) (by omega) (by simp; omega) ?_; intro v' w1 hown' hgrow _ _; obtain ⟨g', cap', rfl⟩ := ownsRow_succ hown'; obtain ⟨hv1, hv2, hr2, hk2, hb2⟩ := HF.out.b2.appended (by decide) HF.out.row (by omega) (by omega) hown' hgrow; have hc1 := hv1.cell; have hf1 := hv1.frozen; have hc2 := hv2.cell)
      have hK' := hk2.same D _ hK rfl
      have hr3 := ownsRow_putObj hr2 (.deferred none) hK' rfl
      have e : cellsOf l ++ [.int .u32 (nn : Int), .int .i64 1] = cellsOf (l ++ [(nn, 1)]) := (cellsOf_snoc l (nn, 1)).symm
      have e2 : l.length + 1 = (l ++ [(nn, 1)]).length := by rw [List.length_append, List.length_singleton]
      rw [e] at hr3
      obtain ⟨A, c, hv, hc, hpw⟩ := pw_of e2 hr3
      injection hv with hv1 hv2 hv3
      subst hv1 hv3
      refine marks_end1 rfl hK' (.tuple #[.slice (some ⟨g', 0, none⟩) (l.length + 1) cap', .int .i64 0]) (by simp [results, Try.f45, go_sem]) ?_
      exact ⟨_, cap', 0, l ++ [(nn, 1)], by rw [← e2]; rfl, by rw [← e2]; exact hc, hpw, .inr ⟨by omega, rfl, HFAC.out, by rw [← e2]; omega⟩, below_shut (HF.out.bel.trans hb2) (by omega) hK'⟩
    · have q1 : decide ((nn : Int) > 1) = false := decide_eq_false (by omega)
      have h1' : nn = 1 := by omega
      have hfac : FacTo n (n + 1) l := by
        obtain ⟨d, h2, h3⟩ := htd
        rw [h1'] at h2
        exact h2.over (by omega)
      have hr3 := ownsRow_putObj hf.row (.deferred none) hK rfl
      obtain ⟨A, c, rfl, hc, hpw⟩ := pw_of rfl hr3
      have hbb := below_shut hf.bel (by omega) hK
      have H := Lib.hid (And.intro hfac (And.intro hpw hbb))
      clear hfac htd hf hr3 hpw hbb
      go_wp2
      refine marks_end1 rfl hK (.tuple #[.slice A l.length c, .int .i64 0]) (by simp [results, Try.f45, go_sem]) ?_
      exact ⟨A, c, 0, l, rfl, hc, H.out.2.1, .inr ⟨by omega, rfl, H.out.1, by omega⟩, H.out.2.2⟩
end Go.Proofs.Ytkklacgoeopekaa

namespace Go.Proofs.Ytkklacgoeopekaa
open Go.RowKit
set_option linter.unusedVariables false

/-- none of the listed numbers divides k -/
def apB (k : Nat) (l : List (Nat × Nat)) : Bool := l.all fun x => decide (¬ x.1 ∣ k)
theorem apB_no {k i : Nat} {l : List (Nat × Nat)} {x : Nat × Nat} (h : l[i]? = some x) (hd : x.1 ∣ k) : apB k l = false := by
  unfold apB
  rw [List.all_eq_false]
  exact ⟨x, List.mem_of_getElem? h, by simp [hd]⟩
theorem apB_yes {k : Nat} {l : List (Nat × Nat)} (h : ∀ (i : Nat) (x : Nat × Nat), l[i]? = some x → ¬ x.1 ∣ k) : apB k l = true := by
  unfold apB
  rw [List.all_eq_true]
  intro x hx
  obtain ⟨i, hi⟩ := List.getElem?_of_mem hx
  simp [h i x hi]

set_option maxHeartbeats 1000000 in
theorem apart_any (k c : Nat) (A : Option Addr) (l : List (Nat × Nat)) (w : World) (lo hi : Nat) (h : Pw w lo hi A l) (hk : k ≤ 4294967295) (hl : l.length ≤ 40) (hp : ∀ x ∈ l, 0 < x.1 ∧ x.1 ≤ 4294967295) (hhi : hi ≤ w.heap.size) :
    Calls Try.prog 48 #[.int .u32 k, .slice A l.length c] w (RetV w (.bool (apB k l))) := by
  go_enter Try.func48, Try.ntmps48
  go_wp2_with fail
  go_loopw [9] (fun I wr => ∃ i : Nat, I = .int .i64 (i : Int) ∧ i ≤ l.length ∧ (∀ (j : Nat) (x : Nat × Nat), j < i → l[j]? = some x → ¬ x.1 ∣ k) ∧ Below w.heap.size w wr) (fun I _ => l.length - (intOf I).toNat)
  case atStart => exact ⟨0, rfl, Nat.zero_le _, fun j x h => absurd h (Nat.not_lt_zero j), Below.refl _ _⟩
  case round =>
    obtain ⟨i, rfl, hi', hun, hbl⟩ := hrel
    by_cases hin : i < l.length
    · obtain ⟨b, rfl, hb1, hb2, hcell⟩ := h (by intro e; rw [e] at hin; exact absurd hin (Nat.not_lt_zero i))
      obtain ⟨x, hx⟩ : ∃ x, l[i]? = some x := ⟨l[i], List.getElem?_eq_getElem hin⟩
      obtain ⟨k1, k2⟩ := hcell i x hx
      have k1 := (hbl.cell (p := ⟨b, i * 2, none⟩) (by show b < _; omega)).trans k1
      have k2 := (hbl.cell (p := ⟨b, i * 2 + 1, none⟩) (by show b < _; omega)).trans k2
      have hbn := hbl.alloc hbl.size (.cells #[.int .u32 (x.1 : Int), .int .i64 (x.2 : Int)] 72)
      obtain ⟨hp1, hp2⟩ := hp x (List.mem_of_getElem? hx)
      have HU := Lib.hid hun
      have HXX := Lib.hid hx
      clear hcell hun hx
      obtain ⟨p, e⟩ := x
      simp only at k1 k2 hp1 hp2
      have hp0 : ¬ p = 0 := by omega
      by_cases hd : p ∣ k
      · have hmod : (k : Int) % (p : Int) = 0 := by obtain ⟨q, hq⟩ := hd; rw [hq, Int.natCast_mul]; exact Int.mul_emod_right _ _
        have hmodt : (k : Int).tmod (p : Int) = 0 := by rw [Int.tmod_eq_emod_of_nonneg (by omega), hmod]
        have hB := apB_no HXX.out hd
        have HB := Lib.hid hB
        clear hB
        go_wp2
        go_ret
        exact ⟨by rw [HB.out]; rfl, hbn⟩
      · have hr0 : 0 < k % p := Nat.pos_of_ne_zero fun h => hd (Nat.dvd_of_mod_eq_zero h)
        obtain ⟨r, hr⟩ : ∃ r, k % p = r := ⟨_, rfl⟩
        rw [hr] at hr0
        have hmod : (k : Int) % (p : Int) = (r : Int) := by rw [← hr]; simp
        have hmodt : (k : Int).tmod (p : Int) = (r : Int) := by rw [Int.tmod_eq_emod_of_nonneg (by omega), hmod]
        have hre : ((r : Int) == 0) = false := by simp; omega
        have hrz : ¬ (r : Int) = 0 := by omega
        clear hr
        go_wp2
        go_roundw
        case rel =>
          have hr : ∀ (j : Nat) (x : Nat × Nat), j < i + 1 → l[j]? = some x → ¬ x.1 ∣ k := fun j x h1 h2 => by
            rcases Nat.lt_or_ge j i with h3 | h3
            · exact HU.out j x h3 h2
            · obtain rfl : j = i := by omega
              rw [HXX.out] at h2
              injection h2 with h2
              rw [← h2]
              exact hd
          exact ⟨i + 1, by go_num, hin, hr, hbn⟩
        case measure => simp only [intOf]; omega
    · have hB : apB k l = true := apB_yes fun j x hj => hun j x (by have := (List.getElem?_eq_some_iff.1 hj).1; omega) hj
      have HB := Lib.hid hB
      clear hun hB
      go_wp2
      go_ret
      exact ⟨by rw [HB.out]; rfl, hbl⟩

end Go.Proofs.Ytkklacgoeopekaa

namespace Go.Proofs.Ytkklacgoeopekaa
open Go.RowKit
set_option linter.unusedVariables false

def RootPre (o n : Nat) : Prop := 2 ≤ n ∧ n ≤ 2147483647 ∧ Mr.Pr n ∧ 0 < o
def RootR (o n v E : Nat) : Prop := (¬ RootPre o n ∧ v = 0 ∧ E = 2) ∨ (RootPre o n ∧ 65536 < o ∧ v = 0 ∧ E = 3) ∨ (RootPre o n ∧ o ≤ 65536 ∧ ¬ o ∣ n - 1 ∧ v = 0 ∧ E = 4) ∨ (RootPre o n ∧ o ≤ 65536 ∧ o ∣ n - 1 ∧ E = 0 ∧ Least n o v)
def RetRoot (w : World) (o n : Nat) (e : Ending) (w' : World) : Prop := ∃ v E : Nat, e = .returned (.tuple #[.int .u32 (v : Int), .int .i64 (E : Int)]) ∧ RootR o n v E ∧ Below w.heap.size w w'

/-- some power has the order -/
theorem exists_start {n o M : Nat} (hp : Mr.Pr n) (ho : 0 < o) (hM : n - 1 = o * M) : ∃ a, 1 ≤ a ∧ a < n ∧ Ordr n (a ^ M % n) o := by
  have hn1 : 0 < n - 1 := by have := hp.1; omega
  obtain ⟨g, hg⟩ := exists_ord hp (n - 1) hn1 (Nat.dvd_refl _)
  have hgn : Ordr n (g % n) (n - 1) := Ordr.modl.2 hg
  have hM0 : 0 < M := Nat.pos_of_ne_zero fun h => by rw [h, Nat.mul_zero] at hM; omega
  refine ⟨g % n, ?_, Nat.mod_lt _ hp.pos, Ordr.modl.2 ⟨ho, U.pow.2 (by rw [Nat.mul_comm, ← hM]; exact hgn.2.1), fun e he => ?_⟩⟩
  · rcases Nat.eq_zero_or_pos (g % n) with h | h
    · exfalso
      have h1 := U.coprime hp hn1 hgn.2.1
      rw [h, Nat.gcd_zero_right] at h1
      have := hp.1
      omega
    · exact h
  · have h1 := hgn.2.2 _ (U.pow.1 he)
    rw [hM, Nat.mul_comm o] at h1
    exact Nat.dvd_of_mul_dvd_mul_left hM0 h1
theorem start_U {n o M a : Nat} (hp : Mr.Pr n) (hM : n - 1 = o * M) (ha : 1 ≤ a) (han : a < n) : Mr.U n (a ^ M % n) o :=
  U.modl.2 (U.pow.2 (by rw [Nat.mul_comm, ← hM]; exact Mr.flt hp fun h => by have := Nat.le_of_dvd (by omega) h; omega))

/-- no prime of the order divides k -/
theorem apart_gcd {o k : Nat} {l : List (Nat × Nat)} (hf : FacTo o (o + 1) l) (ho : 0 < o) : apB k l = true ↔ Nat.gcd k o = 1 := by
  constructor
  · intro h
    rcases Nat.lt_or_ge 1 (Nat.gcd k o) with h1 | h1
    · exfalso
      obtain ⟨q, hq, hqd⟩ := Mr.exists_prime_dvd _ h1
      obtain ⟨j, y, h2, h3⟩ := fac_all hf ho hq (Nat.dvd_trans hqd (Nat.gcd_dvd_right k o))
      have h4 := apB_no (k := k) h2 (by rw [h3]; exact Nat.dvd_trans hqd (Nat.gcd_dvd_left k o))
      rw [h4] at h
      cases h
    · have := Nat.gcd_pos_of_pos_right k ho
      omega
  · intro h
    refine apB_yes fun i x hi hd => ?_
    obtain ⟨h1, h2⟩ := fac_prime hf (List.mem_of_getElem? hi)
    have h3 := Nat.dvd_gcd hd h2
    rw [h] at h3
    have := Nat.le_of_dvd Nat.one_pos h3
    have := h1.1
    omega
theorem Pw.below {w w' : World} {lo hi B : Nat} {A : Option Addr} {l : List (Nat × Nat)} (h : Pw w lo hi A l) (hb : Below B w w') (hhi : hi ≤ B) : Pw w' lo hi A l := fun hne => by
  obtain ⟨b, h1, h2, h3, h4⟩ := h hne
  exact ⟨b, h1, h2, h3, fun i x hx => ⟨(hb.cell (p := ⟨b, i * 2, none⟩) (by show b < B; omega)).trans (h4 i x hx).1, (hb.cell (p := ⟨b, i * 2 + 1, none⟩) (by show b < B; omega)).trans (h4 i x hx).2⟩⟩
/-- the state of the search for the least one: the first k powers are done -/
def LI (n w o k lv av : Nat) : Prop := Ordr n lv o ∧ lv < n ∧ w ^ k % n = av ∧ ∀ j, j < k → Nat.gcd j o = 1 → lv ≤ w ^ j % n
theorem LI.keep {n w o k lv av : Nat} (h : LI n w o k lv av) (hk : Nat.gcd k o = 1 → lv ≤ av) : LI n w o (k + 1) lv (av * w % n) := by
  obtain ⟨h1, h2, h3, h4⟩ := h
  refine ⟨h1, h2, by rw [Nat.pow_succ, ← h3, Nat.mod_mul_mod], fun j hj hg => ?_⟩
  rcases Nat.lt_or_ge j k with h5 | h5
  · exact h4 j h5 hg
  · obtain rfl : j = k := by omega
    rw [h3]
    exact hk hg
theorem LI.take {n w o k lv av : Nat} (h : LI n w o k lv av) (hw : Ordr n w o) (hn : 0 < n) (hk : Nat.gcd k o = 1) (hlt : av < lv) : LI n w o (k + 1) av (av * w % n) := by
  obtain ⟨h1, h2, h3, h4⟩ := h
  refine ⟨by rw [← h3]; exact hw.pow hk, by omega, by rw [Nat.pow_succ, ← h3, Nat.mod_mul_mod], fun j hj hg => ?_⟩
  rcases Nat.lt_or_ge j k with h5 | h5
  · have := h4 j h5 hg
    omega
  · obtain rfl : j = k := by omega
    omega
theorem LI.start {n w o : Nat} (hw : Ordr n w o) (hlt : w < n) (hn : 2 ≤ n) : LI n w o 0 w 1 := ⟨hw, hlt, by rw [Nat.pow_zero]; exact Nat.mod_eq_of_lt hn, fun j hj => absurd hj (Nat.not_lt_zero j)⟩
theorem LI.done {n w o lv av : Nat} (h : LI n w o o lv av) (hp : Mr.Pr n) (hw : Ordr n w o) : Least n o lv := least_of hp hw h.1 h.2.1 h.2.2.2
def msr2 (a b : Int) : Nat := if a = 0 then 4294967297 - b.toNat else 0

set_option maxRecDepth 100000 in
set_option maxHeartbeats 4000000 in
theorem root_any (o n : Nat) (w : World) (hn : n ≤ 4294967295) (ho : o ≤ 4294967295) :
    Calls Try.prog 25 #[.int .u32 o, .int .u32 n] w (RetRoot w o n) := by
  have HFIT := Lib.hid (fits_any n 0 0 none (fun _ => 0) w 0 0 (Sq.nil _ _ _ _ _) (by omega))
  by_cases hf : 2 ≤ n ∧ n ≤ 2147483647
  rotate_left
  · have hff : fitsB n 0 (fun _ => 0) = false := by
      rw [fitsB_all fun j h => absurd h (Nat.not_lt_zero j)]
      by_cases h : 2 ≤ n
      · have : ¬ n ≤ 2147483647 := fun h2 => hf ⟨h, h2⟩
        simp [this]
      · simp [h]
    rw [hff] at HFIT
    go_enter Try.func25, Try.ntmps25
    go_wp2_with fail
    refine HFIT.out.mono ?_
    rintro e w' ⟨rfl, hw'⟩
    subst hw'
    go_wp2_with fail
    go_ret2
    exact ⟨0, 2, rfl, .inl ⟨fun h => hf ⟨h.1, h.2.1⟩, rfl, rfl⟩, Below.refl _ _⟩
  have hff : fitsB n 0 (fun _ => 0) = true := by
    rw [fitsB_all fun j h => absurd h (Nat.not_lt_zero j)]
    simp [hf.1, hf.2]
  rw [hff] at HFIT
  obtain ⟨hf2, hf3⟩ := hf
  have HP := Lib.hid (prime_any n w hn)
  cases hpr : prB n
  · rw [hpr] at HP
    have hnp : ¬ Mr.Pr n := fun h => by rw [prB_yes h] at hpr; cases hpr
    have HNP := Lib.hid hnp
    clear hpr hnp hff
    go_enter Try.func25, Try.ntmps25
    go_wp2_with fail
    refine HFIT.out.mono ?_
    rintro e w' ⟨rfl, hw'⟩
    subst hw'
    go_wp2_with fail
    refine HP.out.mono ?_
    rintro e w2 ⟨rfl, hb2⟩
    go_wp2_with fail
    go_ret2
    exact ⟨0, 2, rfl, .inl ⟨fun h => HNP.out h.2.2.1, rfl, rfl⟩, hb2⟩
  rw [hpr] at HP
  have hprime := prB_true.1 hpr
  have HPR := Lib.hid hprime
  clear hpr hprime hff
  by_cases ho0 : o = 0
  · have q1 : ((o : Int) == 0) = true := by subst ho0; rfl
    have HO := Lib.hid ho0
    clear ho0
    go_enter Try.func25, Try.ntmps25
    go_wp2_with fail
    refine HFIT.out.mono ?_
    rintro e w' ⟨rfl, hw'⟩
    subst hw'
    go_wp2_with fail
    refine HP.out.mono ?_
    rintro e w2 ⟨rfl, hb2⟩
    go_wp2_with fail
    go_ret2
    exact ⟨0, 2, rfl, .inl ⟨fun h => by have := h.2.2.2; have := HO.out; omega, rfl, rfl⟩, hb2⟩
  have q1 : ((o : Int) == 0) = false := by simp; omega
  have hpre : RootPre o n := ⟨hf2, hf3, HPR.out, by omega⟩
  by_cases ho1 : 65536 < o
  · have q2 : decide ((o : Int) > 65536) = true := decide_eq_true (by omega)
    go_enter Try.func25, Try.ntmps25
    go_wp2_with fail
    refine HFIT.out.mono ?_
    rintro e w' ⟨rfl, hw'⟩
    subst hw'
    go_wp2_with fail
    refine HP.out.mono ?_
    rintro e w2 ⟨rfl, hb2⟩
    go_wp2_with fail
    go_ret2
    exact ⟨0, 3, rfl, .inr (.inl ⟨hpre, ho1, rfl, rfl⟩), hb2⟩
  have q2 : decide ((o : Int) > 65536) = false := decide_eq_false (by omega)
  obtain ⟨N, hN⟩ : ∃ N, n - 1 = N := ⟨_, rfl⟩
  have hNi : (n : Int) - 1 = (N : Int) := by omega
  by_cases hd : o ∣ N
  rotate_left
  · have hr0 : 0 < N % o := Nat.pos_of_ne_zero fun h => hd (Nat.dvd_of_mod_eq_zero h)
    obtain ⟨r, hr⟩ : ∃ r, N % o = r := ⟨_, rfl⟩
    rw [hr] at hr0
    have hmod : (N : Int) % (o : Int) = (r : Int) := by rw [← hr]; simp
    have hmodt : (N : Int).tmod (o : Int) = (r : Int) := by rw [Int.tmod_eq_emod_of_nonneg (by omega), hmod]
    have hre : ((r : Int) != 0) = true := by simp; omega
    have hrz : ¬ (r : Int) = 0 := by omega
    have HD := Lib.hid (show ¬ o ∣ n - 1 by rw [hN]; exact hd)
    clear hr hd
    go_enter Try.func25, Try.ntmps25
    go_wp2_with fail
    refine HFIT.out.mono ?_
    rintro e w' ⟨rfl, hw'⟩
    subst hw'
    go_wp2_with fail
    refine HP.out.mono ?_
    rintro e w2 ⟨rfl, hb2⟩
    go_wp2_with fail
    go_ret2
    exact ⟨0, 4, rfl, .inr (.inr (.inl ⟨hpre, by omega, HD.out, rfl, rfl⟩)), hb2⟩
  obtain ⟨M, hM⟩ := hd
  have hmod : (N : Int) % (o : Int) = 0 := by rw [hM, Int.natCast_mul]; exact Int.mul_emod_right _ _
  have hmodt : (N : Int).tmod (o : Int) = 0 := by rw [Int.tmod_eq_emod_of_nonneg (by omega), hmod]
  have hquo : (N : Int) / (o : Int) = (M : Int) := by rw [hM, Int.natCast_mul]; exact Int.mul_ediv_cancel_left _ (by omega)
  have hquot : (N : Int).tdiv (o : Int) = (M : Int) := by rw [Int.tdiv_eq_ediv_of_nonneg (by omega), hquo]
  have hMN : M ≤ N := by rw [hM]; exact Nat.le_mul_of_pos_left _ (by omega)
  have HM := Lib.hid (show n - 1 = o * M by rw [hN, hM])
  clear hM
  go_enter Try.func25, Try.ntmps25
  go_wp2_with fail
  refine HFIT.out.mono ?_
  rintro e w' ⟨rfl, hw'⟩
  subst hw'
  go_wp2_with fail
  refine HP.out.mono ?_
  rintro e w2 ⟨rfl, hb2⟩
  have hz2 := hb2.size
  go_wp2_with fail
  refine (factors_any o w2 ho).mono ?_
  rintro e w3 ⟨A, c, E, l, rfl, hlc, hpw, hfr, hb3'⟩
  have hb3 := hb2.trans (hb3'.mono hz2)
  have hz3 := hb3.size
  rcases hfr with ⟨h0, _⟩ | ⟨hN0, rfl, hfac, hl40⟩
  · omega
  have HPW := Lib.hid hpw
  have HFAC := Lib.hid hfac
  clear hpw hfac hb3' HFIT HP
  go_wp2_with fail
  obtain ⟨a0, ha1, ha2, ha3⟩ := exists_start HPR.out (by omega) HM.out
  have HA3 := Lib.hid ha3
  have hap : ∀ x ∈ l, 0 < x.1 ∧ x.1 ≤ 4294967295 := fun x hx => by
    obtain ⟨h1, h2⟩ := fac_prime HFAC.out hx
    have := Nat.le_of_dvd hN0 h2
    exact ⟨h1.pos, by omega⟩
  have HAP := Lib.hid hap
  clear ha3 hap
  go_loopw [8, 9] (fun Wv Av wr => ∃ wv a : Nat, Wv = .int .u32 (wv : Int) ∧ Av = .int .u32 (a : Int) ∧ 1 ≤ a ∧ a ≤ n ∧ (wv = 0 ∧ a ≤ a0 ∨ wv ≠ 0 ∧ wv < n ∧ Ordr n wv o) ∧ Below w3.heap.size w3 wr) (fun Wv Av _ => msr2 (intOf Wv) (intOf Av))
  case atStart => exact ⟨0, 1, rfl, rfl, Nat.le_refl _, by omega, .inl ⟨rfl, ha1⟩, Below.refl _ _⟩
  case round =>
    obtain ⟨wv, a, rfl, rfl, hage, hale, hor, hbl⟩ := hrel
    have hzr := hbl.size
    rcases hor with ⟨hw0, haa⟩ | ⟨hw0, hwn, hord⟩
    · have q3 : ((wv : Int) == 0) = true := by subst hw0; rfl
      have HW0 := Lib.hid hw0
      clear hw0
      obtain ⟨xv, hxv⟩ : ∃ xv, a ^ M % n = xv := ⟨_, rfl⟩
      have hxn : xv < n := by rw [← hxv]; exact Nat.mod_lt _ (by omega)
      have HXV := Lib.hid hxv
      have HPOW := Lib.hid (power_p a M n wr (by omega) (by omega) hf2 hn)
      rw [hxv] at HPOW
      clear hxv
      go_wp2_with fail
      refine HPOW.out.mono ?_
      rintro e w4 ⟨rfl, hb4'⟩
      have hb4 := hbl.trans (hb4'.mono hzr)
      have hz4 := hb4.size
      clear hb4' HPOW
      go_wp2_with fail
      go_loopw [11, 59] (fun G I wr2 => ∃ (i : Nat) (g : Bool), I = .int .i64 (i : Int) ∧ i ≤ l.length ∧ G = .bool g ∧ TI n o l xv i g ∧ Below w3.heap.size w3 wr2) (fun _ I _ => l.length - (intOf I).toNat)
      case atStart => exact ⟨0, true, rfl, Nat.zero_le _, rfl, TI.start _ _ _ _, hb4⟩
      case round =>
        clear hb4 hz4
        obtain ⟨i, g, rfl, hil, rfl, hti, hbl2⟩ := hrel
        have HTI := Lib.hid hti
        have hz5 := hbl2.size
        clear hti
        by_cases hin : i < l.length
        · obtain ⟨b, rfl, hb1, hb2', hcell⟩ := HPW.out (by intro e; rw [e] at hin; exact absurd hin (Nat.not_lt_zero i))
          obtain ⟨x, hx⟩ : ∃ x, l[i]? = some x := ⟨l[i], List.getElem?_eq_getElem hin⟩
          obtain ⟨k1, k2⟩ := hcell i x hx
          have k1 := (hbl2.cell (p := ⟨b, i * 2, none⟩) hb2').trans k1
          have k2 := (hbl2.cell (p := ⟨b, i * 2 + 1, none⟩) hb2').trans k2
          obtain ⟨hqp, hqN⟩ := fac_prime HFAC.out (List.mem_of_getElem? hx)
          have hq2 := hqp.1
          have hqle := Nat.le_of_dvd hN0 hqN
          have HXX := Lib.hid hx
          obtain ⟨c', hc'⟩ := hqN
          clear hcell hx hqp
          obtain ⟨q, e⟩ := x
          simp only at k1 k2 hq2 hqle hc'
          have hq0 : ¬ q = 0 := by omega
          have hquo2 : (o : Int) / (q : Int) = (c' : Int) := by rw [hc', Int.natCast_mul]; exact Int.mul_ediv_cancel_left _ (by omega)
          have hquot2 : (o : Int).tdiv (q : Int) = (c' : Int) := by rw [Int.tdiv_eq_ediv_of_nonneg (by omega), hquo2]
          have hco : c' ≤ o := by rw [hc']; exact Nat.le_mul_of_pos_left _ (by omega)
          have hdiv : o / q = c' := by rw [hc', Nat.mul_div_cancel_left _ (by omega)]
          have HDIV := Lib.hid hdiv
          have hbn := hbl2.alloc hz5 (.cells #[.int .u32 (q : Int), .int .i64 (e : Int)] 72)
          have hzn := hbn.size
          clear hc' hdiv
          cases g
          · go_wp2_with fail
            go_roundw
            case rel => exact ⟨i + 1, false, by go_num, hin, rfl, HTI.out.keep, hbn⟩
            case measure => simp only [intOf]; omega
          · obtain ⟨pv, hpv⟩ : ∃ pv, xv ^ c' % n = pv := ⟨_, rfl⟩
            have hpvn : pv < n := by rw [← hpv]; exact Nat.mod_lt _ (by omega)
            have HPV := Lib.hid hpv
            have HPOW := Lib.hid (fun V => power_p xv c' n V (by omega) (by omega) hf2 hn)
            rw [hpv] at HPOW
            clear hpv
            go_wp2_with fail
            refine (HPOW.out _).mono ?_
            rintro e6 w6 ⟨rfl, hb6⟩
            have hb36 := hbn.trans (hb6.mono hzn)
            by_cases hu : pv = 1
            · have q4 : ((pv : Int) != 1) = false := by subst hu; rfl
              have HNX := Lib.hid (HTI.out.next (g := false) HXX.out hf2 (by show xv ^ (o / q) % n = pv; rw [HDIV.out]; exact HPV.out) (by simp [hu]))
              clear hu
              go_wp2
              go_roundw
              case rel => exact ⟨i + 1, false, by go_num, hin, rfl, HNX.out, hb36⟩
              case measure => simp only [intOf]; omega
            · have q4 : ((pv : Int) != 1) = true := by simp; omega
              have HNX := Lib.hid (HTI.out.next (g := true) HXX.out hf2 (by show xv ^ (o / q) % n = pv; rw [HDIV.out]; exact HPV.out) (by simp [hu]))
              clear hu
              go_wp2
              go_roundw
              case rel => exact ⟨i + 1, true, by go_num, hin, rfl, HNX.out, hb36⟩
              case measure => simp only [intOf]; omega
        · obtain rfl : i = l.length := by omega
          cases g
          · have hna : a ≠ a0 := fun h => HTI.out.bad HFAC.out (by rw [← HXV.out, h]; exact HA3.out)
            go_wp2
            go_roundw
            case rel => exact ⟨wv, a + 1, rfl, by go_num, by omega, by omega, .inl ⟨HW0.out, by omega⟩, hbl2⟩
            case measure =>
              rw [HW0.out]
              show 4294967297 - _ < 4294967297 - _
              simp only [intOf]
              omega
          · have hux : Mr.U n xv o := by rw [← HXV.out]; exact start_U HPR.out HM.out hage (by omega)
            have hox := HTI.out.good HFAC.out (by omega) hux
            have hx0 : xv ≠ 0 := fun h => by
              have h1 := U.coprime HPR.out (by omega) hux
              rw [h, Nat.gcd_zero_right] at h1
              omega
            have HOX := Lib.hid (And.intro hx0 hox)
            have hms : msr2 (xv : Int) ((a : Int) + 1) < msr2 (wv : Int) (a : Int) := by
              rw [HW0.out]
              unfold msr2
              rw [if_neg (by omega)]
              show 0 < 4294967297 - _
              omega
            clear hux hox hx0
            go_wp2
            go_roundw
            case rel => exact ⟨xv, a + 1, rfl, by go_num, by omega, by omega, .inr ⟨HOX.out.1, hxn, HOX.out.2⟩, hbl2⟩
            case measure => exact hms
    · have q3 : ((wv : Int) == 0) = false := by simp; omega
      have HORD := Lib.hid hord
      clear hord
      go_wp2_with fail
      refine (prodf_any n wr hn).mono ?_
      rintro e w5 ⟨rfl, hw5⟩
      have hb5 : Below w3.heap.size w3 w5 := by rw [hw5]; exact hbl.alloc hzr _
      have hc5 : w5.cell? ⟨wr.heap.size, 0, none⟩ = some (.int .u64 (n : Int)) := by rw [hw5, World.cell?_alloc_new]; rfl
      have hz5 : wr.heap.size < w5.heap.size := by rw [hw5, World.size_alloc]; omega
      clear hw5
      go_wp2_with fail
      have HPW3 := Lib.hid (HPW.out.below hb5 (Nat.le_refl _))
      clear HPW
      obtain ⟨wo, rfl⟩ : ∃ wo : World, wo = wr := ⟨_, rfl⟩
      go_loopw [15, 16, 82] (fun L At I wr2 => ∃ lv av k : Nat, L = .int .u32 (lv : Int) ∧ At = .int .u32 (av : Int) ∧ I = .int .u32 (k : Int) ∧ k ≤ o ∧ lv < n ∧ av < n ∧ LI n wv o k lv av ∧ Below w5.heap.size w5 wr2) (fun _ _ I _ => o - (intOf I).toNat)
      case atStart => exact ⟨wv, 1, 0, rfl, rfl, rfl, Nat.zero_le _, hwn, by omega, LI.start HORD.out hwn hf2, Below.refl _ _⟩
      case round =>
        obtain ⟨lv, av, k, rfl, rfl, rfl, hko, hlv, hav, hli, hbl2⟩ := hrel
        have HLI := Lib.hid hli
        have hz7 := hbl2.size
        have hz53 := hb5.size
        have hb7 := hb5.trans (hbl2.mono hz53)
        clear hli
        by_cases hin : k < o
        · have q5 : decide ((k : Int) < (o : Int)) = true := decide_eq_true (by omega)
          obtain ⟨nx, hnx⟩ : ∃ nx, av * wv % n = nx := ⟨_, rfl⟩
          have hnxn : nx < n := by rw [← hnx]; exact Nat.mod_lt _ (by omega)
          have HNX := Lib.hid hnx
          clear hnx
          have HMU := Lib.hid (fun (V : World) (hV : Below w5.heap.size w5 V) => mulm_any av wv n wo.heap.size V (by omega) (by omega) (by omega) (by omega) ((hV.cell (p := ⟨wo.heap.size, 0, none⟩) hz5).trans hc5))
          rw [HNX.out] at HMU
          by_cases hlt : av < lv
          · have q6 : decide ((av : Int) < (lv : Int)) = true := decide_eq_true (by omega)
            have HAPT := Lib.hid (apart_any k c A l wr _ _ (HPW3.out.below hbl2 hz53) (by omega) hl40 HAP.out (by omega))
            cases hap : apB k l
            · have hng : ¬ Nat.gcd k o = 1 := fun h => by rw [(apart_gcd HFAC.out (by omega)).2 h] at hap; cases hap
              have HK := Lib.hid (HLI.out.keep fun h => absurd h hng)
              rw [hap] at HAPT
              rw [HNX.out] at HK
              clear hap hng
              go_wp2_with fail
              (with_reducible refine HAPT.out.mono ?_)
              rintro e8 w8 ⟨rfl, hb8'⟩
              have hb8 := hbl2.trans (hb8'.mono hz7)
              clear hb8'
              go_wp2_with fail
              (with_reducible refine (HMU.out w8 hb8).mono ?_)
              rintro e9 w9 ⟨rfl, hw9⟩
              subst hw9
              go_wp2
              go_roundw
              case rel => exact ⟨lv, nx, k + 1, rfl, rfl, by go_num, hin, hlv, hnxn, HK.out, hb8⟩
              case measure => simp only [intOf]; omega
            · have hg := (apart_gcd (k := k) HFAC.out (by omega)).1 hap
              have HK := Lib.hid (HLI.out.take HORD.out (by omega) hg hlt)
              rw [hap] at HAPT
              rw [HNX.out] at HK
              clear hap hg
              go_wp2_with fail
              (with_reducible refine HAPT.out.mono ?_)
              rintro e8 w8 ⟨rfl, hb8'⟩
              have hb8 := hbl2.trans (hb8'.mono hz7)
              clear hb8'
              go_wp2_with fail
              (with_reducible refine (HMU.out w8 hb8).mono ?_)
              rintro e9 w9 ⟨rfl, hw9⟩
              subst hw9
              go_wp2
              go_roundw
              case rel => exact ⟨av, nx, k + 1, rfl, rfl, by go_num, hin, hav, hnxn, HK.out, hb8⟩
              case measure => simp only [intOf]; omega
          · have q6 : decide ((av : Int) < (lv : Int)) = false := decide_eq_false (by omega)
            have HK := Lib.hid (HLI.out.keep fun _ => by omega)
            rw [HNX.out] at HK
            go_wp2_with fail
            (with_reducible refine (HMU.out wr hbl2).mono ?_)
            rintro e9 w9 ⟨rfl, hw9⟩
            subst hw9
            go_wp2
            go_roundw
            case rel => exact ⟨lv, nx, k + 1, rfl, rfl, by go_num, hin, hlv, hnxn, HK.out, hbl2⟩
            case measure => simp only [intOf]; omega
        · obtain rfl : k = o := by omega
          have HL := Lib.hid (HLI.out.done HPR.out HORD.out)
          have q5 : decide ((k : Int) < (k : Int)) = false := decide_eq_false (by omega)
          go_wp2
          go_ret2
          exact ⟨lv, 0, rfl, .inr (.inr (.inr ⟨hpre, by omega, ⟨M, HM.out⟩, rfl, HL.out⟩)), hb3.trans (hb7.mono hz3)⟩
end Go.Proofs.Ytkklacgoeopekaa
