/- The contract of modular.Factors. -/
import Derived.Test.YtcnkddoipmaddaaDivisors
import Derived.Test.YtcnkddoipmaddaaFacP
import Derived.Test.YtcnkddoipmaddaaPow
import Derived.RangeFuncBox
import Derived.OwnWalk
namespace Go.Proofs.Ytcnkddoipmaddaa
open Go.RowKit Go.Shelf Go.Sort
set_option linter.unusedVariables false
attribute [local go_sem] Oper.semAt_some

theorem divisors_any (w : World) : Calls Try.prog 62 #[] w fun e w' => e = .returned (.func (.func 65) #[] #[]) ∧ w' = w := by
  go_enter Try.func62, Try.ntmps62
  go_wp2
  go_ret
  exact ⟨rfl, rfl⟩

def cellsOf (l : List (Nat × Nat)) : List Value := l.flatMap fun x => [.int .u32 (x.1 : Int), .int .i64 (x.2 : Int)]
theorem cellsOf_snoc (l : List (Nat × Nat)) (x : Nat × Nat) : cellsOf (l ++ [x]) = cellsOf l ++ [.int .u32 (x.1 : Int), .int .i64 (x.2 : Int)] := by
  unfold cellsOf
  rw [List.flatMap_append]
  rfl
theorem cellsOf_len (l : List (Nat × Nat)) : (cellsOf l).length = l.length * 2 := by
  induction l with
  | nil => rfl
  | cons x l ih =>
    show (_ :: _ :: cellsOf l).length = (l.length + 1) * 2
    rw [List.length_cons, List.length_cons, ih]
    omega

/-- what trial division has made of N in memory: what is left, and the list so far -/
structure FSw (w : World) (N : Nat) (nn : Nat) (l : List (Nat × Nat)) (v : Value) (W : World) : Prop where
  pos : 0 < nn
  len : nn * 2 ^ l.length ≤ N
  b1 : Boxed W w.heap.size 22 (.int .u32 (nn : Int))
  b2 : Boxed W (w.heap.size + 1) 85 v
  row : W.ownsRow w.heap.size 90 2 v l.length (cellsOf l)
  bel : Below w.heap.size w W

theorem cell_two_new (W : World) (u v : Value) (t : TypeId) : ∀ (j : Nat) (x : Value), [u, v][j]? = some x → (W.alloc (.cells #[u, v] t)).cell? ((⟨W.heap.size, 0, none⟩ : Addr).add j) = some x := by
  intro j x hx
  have e : (⟨W.heap.size, 0, none⟩ : Addr).add j = ⟨W.heap.size, j, none⟩ := by
    unfold Addr.add
    split
    · have : j = 0 := by assumption
      subst this
      rfl
    · simp
  rw [e, World.cell?_alloc_new]
  match j, hx with
  | 0, hx => exact hx
  | 1, hx => exact hx
theorem ne_row {A : World} {b : Nat} {cs : Array Value} {e : TypeId} {z : Nat × Nat} {row : Option Nat} (h : A.heap[b]? = some (.cells cs e z)) (hr : ∀ r, row = some r → ∃ o : Obj, A.heap[r]? = some o ∧ o.isCells = false) : some b ≠ row := fun e' => by
  obtain ⟨o, ho, hc⟩ := hr b e'.symm
  rw [h] at ho
  cases ho
  cases hc
theorem own_kept {A B : World} {base size n : Nat} {e : TypeId} {v : Value} {xs : List Value} {row : Option Nat} (h : A.ownsRow base e size v n xs) (hg : A.grownBy B row) (hr : ∀ r, row = some r → ∃ o : Obj, A.heap[r]? = some o ∧ o.isCells = false) : B.ownsRow base e size v n xs := by
  refine h.kept hg ?_
  rcases h.2 with ⟨rfl, _⟩ | ⟨g, cap, cur, rfl, _, hgb, _⟩
  · exact .inl rfl
  · exact .inr fun e' => ne_row hgb hr (by simpa [Value.ownBlock] using e')
theorem FSw.kept {w A B : World} {N nn : Nat} {l : List (Nat × Nat)} {v : Value} {row : Option Nat} (h : FSw w N nn l v A) (hg : A.grownBy B row) (hr : ∀ r, row = some r → w.heap.size ≤ r ∧ ∃ o : Obj, A.heap[r]? = some o ∧ o.isCells = false) : FSw w N nn l v B where
  pos := h.pos
  len := h.len
  b1 := h.b1.kept hg (ne_row h.b1 fun r e => (hr r e).2)
  b2 := h.b2.kept hg (ne_row h.b2 fun r e => (hr r e).2)
  row := own_kept h.row hg fun r e => (hr r e).2
  bel := h.bel.grown hg h.bel.size fun k e => (hr k e).1

theorem pow_bound {d kk n2 nn : Nat} (hd : 2 ≤ d) (h : nn = d ^ kk * n2) (h2 : 0 < n2) (hn : nn ≤ 4294967295) : kk ≤ 31 := by
  rcases Nat.lt_or_ge 31 kk with h1 | h1
  · have h3 : 2 ^ 32 ≤ 2 ^ kk := Nat.pow_le_pow_right (by omega) h1
    have h4 : 2 ^ kk ≤ d ^ kk := Nat.pow_le_pow_left hd kk
    have h5 : d ^ kk * 1 ≤ d ^ kk * n2 := Nat.mul_le_mul_left _ h2
    omega
  · exact h1
theorem el_next (j : Nat) : el (j + 1) = el j + 1 ∨ (el (j + 1) = el j + 2 ∧ 2 ∣ el j + 1 ∧ 3 ≤ el j) := by
  cases j with
  | zero => exact .inl rfl
  | succ j => exact .inr ⟨by show 2 * (j + 1) + 3 = 2 * j + 3 + 2; omega, ⟨j + 2, by show 2 * j + 3 + 1 = _; omega⟩, by show 3 ≤ 2 * j + 3; omega⟩
/-- even numbers may be passed over -/
theorem TD.next {N j n : Nat} {l : List (Nat × Nat)} (h : TD N (el j + 1) n l) (hN : 0 < N) : TD N (el (j + 1)) n l := by
  rcases el_next j with e | ⟨e, h2, h3⟩
  · rw [e]; exact h
  · rw [e]
    refine h.pass hN fun hd => ?_
    have hp := h.prime (by omega) hd
    rcases hp.2 2 h2 with h4 | h4 <;> omega

theorem len_bound {nn k N : Nat} (h : nn * 2 ^ k ≤ N) (hn : 0 < nn) (hN : N ≤ 4294967295) : k ≤ 31 := by
  rcases Nat.lt_or_ge 31 k with h1 | h1
  · have h3 : 2 ^ 32 ≤ 2 ^ k := Nat.pow_le_pow_right (by omega) h1
    have h4 : 1 * 2 ^ k ≤ nn * 2 ^ k := Nat.mul_le_mul_right _ hn
    omega
  · exact h1
theorem len_take {nn n2 d kk k N : Nat} (h : nn * 2 ^ k ≤ N) (hnd : nn = d ^ kk * n2) (hd : 2 ≤ d) (hk : kk ≠ 0) : n2 * 2 ^ (k + 1) ≤ N := by
  have h1 : 2 ^ 1 ≤ d ^ kk := Nat.le_trans (Nat.pow_le_pow_left hd 1) (Nat.pow_le_pow_right (by omega) (by omega))
  have h2 : 2 * n2 ≤ nn := by rw [hnd]; exact Nat.mul_le_mul_right n2 h1
  have h3 : 2 * n2 * 2 ^ k ≤ nn * 2 ^ k := Nat.mul_le_mul_right _ h2
  have h4 : n2 * 2 ^ (k + 1) = 2 * n2 * 2 ^ k := by rw [Nat.pow_succ, ← Nat.mul_assoc, Nat.mul_comm, ← Nat.mul_assoc]
  omega

/-- a list of primes and exponents in memory -/
def Pw (w : World) (lo hi : Nat) (A : Option Addr) (l : List (Nat × Nat)) : Prop :=
  l ≠ [] → ∃ b, A = some ⟨b, 0, none⟩ ∧ lo ≤ b ∧ b < hi ∧ ∀ i x, l[i]? = some x → w.cell? ⟨b, i * 2, none⟩ = some (.int .u32 (x.1 : Int)) ∧ w.cell? ⟨b, i * 2 + 1, none⟩ = some (.int .i64 (x.2 : Int))
theorem cellsOf_get : ∀ (l : List (Nat × Nat)) (i : Nat) (x : Nat × Nat), l[i]? = some x → (cellsOf l)[2 * i]? = some (.int .u32 (x.1 : Int)) ∧ (cellsOf l)[2 * i + 1]? = some (.int .i64 (x.2 : Int))
  | [], i, x, h => by simp at h
  | y :: l, 0, x, h => by
    obtain rfl : y = x := by simpa using h
    exact ⟨rfl, rfl⟩
  | y :: l, i + 1, x, h => by
    have h1 := cellsOf_get l i x (by simpa using h)
    have e : cellsOf (y :: l) = [.int .u32 (y.1 : Int), .int .i64 (y.2 : Int)] ++ cellsOf l := rfl
    rw [e, List.getElem?_append_right (by simp; omega), List.getElem?_append_right (by simp; omega)]
    exact ⟨by simpa [show 2 * (i + 1) - 2 = 2 * i from by omega] using h1.1, by simpa [show 2 * (i + 1) + 1 - 2 = 2 * i + 1 from by omega] using h1.2⟩
theorem pw_of {w : World} {base n : Nat} {e : TypeId} {l : List (Nat × Nat)} {v : Value} (hn : n = l.length) (h : w.ownsRow base e 2 v n (cellsOf l)) : ∃ A c, v = .slice A n c ∧ n ≤ c ∧ Pw w base w.heap.size A l := by
  subst hn
  rcases h.2 with ⟨rfl, h0⟩ | ⟨g, cap, cur, rfl, hb, hh, hnc, _, hs, ht⟩
  · exact ⟨none, 0, by rw [h0], by omega, fun hne => absurd (List.length_eq_zero_iff.1 h0) hne⟩
  · refine ⟨_, _, rfl, hnc, fun _ => ⟨g, rfl, hb, (Array.getElem?_eq_some_iff.1 hh).1, fun i x hx => ?_⟩⟩
    obtain ⟨h1, h2⟩ := cellsOf_get l i x hx
    have hlt : i < l.length := (List.getElem?_eq_some_iff.1 hx).1
    have key : ∀ j, j < l.length * 2 → w.cell? ⟨g, j, none⟩ = (cellsOf l)[j]? := fun j hj => by
      rw [← ht, List.getElem?_take_of_lt hj, Array.getElem?_toList]
      simp [World.cell?, hh]
    rw [Nat.mul_comm] at h1 h2
    exact ⟨(key _ (by omega)).trans h1, (key _ (by omega)).trans h2⟩

/-- what Factors answers -/
def FacR (N E : Nat) (l : List (Nat × Nat)) : Prop := (N = 0 ∧ E = 2 ∧ l = []) ∨ (0 < N ∧ E = 0 ∧ FacTo N (N + 1) l ∧ l.length ≤ 40)
def RetFac (w : World) (N : Nat) (e : Ending) (w' : World) : Prop :=
  ∃ A c E l, e = .returned (.tuple #[.slice A l.length c, .int .i64 ((E : Nat) : Int)]) ∧ l.length ≤ c ∧ Pw w' w.heap.size w'.heap.size A l ∧ FacR N E l ∧ Below w.heap.size w w'

set_option maxRecDepth 100000 in
set_option maxHeartbeats 2000000 in
theorem factors_any (n : Nat) (w : World) (hn : n ≤ 4294967295) :
    Calls Try.prog 53 #[.int .u32 n] w (RetFac w n) := by
  obtain ⟨i0, hi, hz0, hz1, hz2⟩ := info_parts (P := Try.prog) (e := 90) (z := .agg #[.int .u32 0, .int .i64 0]) (size := 2) (bytes := 16) (by kernel_rfl)
  refine calls_of_marks Try.func53 rfl ?_
  simp only [Try.ntmps53, List.size_toArray, List.length_cons, List.length_nil, Nat.reduceAdd, Nat.reduceSub, Array.replicate_succ, Array.replicate_zero, List.push_toArray, List.append_toArray, List.nil_append, List.cons_append]
  by_cases h0 : n = 0
  · subst h0
    go_wp2_with fail
    refine marks_end rfl (.tuple #[.slice none 0 0, .int .i64 2]) (by simp [results, Try.f53, go_sem]) ?_
    exact ⟨none, 0, 2, [], rfl, Nat.le_refl _, fun h => absurd rfl h, .inl ⟨rfl, rfl, rfl⟩, (Below.refl _ _).alloc (Nat.le_refl _) _⟩
  have q0 : ((n : Int) == 0) = false := by simp; omega
  go_wp2_with fail
  refine (divisors_any _).mono ?_
  rintro e w6 ⟨rfl, hw6⟩
  have bN := Boxed.new w 22 (.int .u32 (n : Int))
  have bO := Boxed.new (w.alloc (.cells #[.int .u32 (n : Int)] 22)) 85 (.slice none 0 0)
  rw [World.size_alloc] at bO
  have bN := bN.alloc (.cells #[.slice none 0 0] 85)
  have hB0 : Below w.heap.size w ((w.alloc (.cells #[.int .u32 (n : Int)] 22)).alloc (.cells #[.slice none 0 0] 85)) := ((Below.refl _ w).alloc (Nat.le_refl _) _).alloc (by rw [World.size_alloc]; omega) _
  have hz6 : ((w.alloc (.cells #[.int .u32 (n : Int)] 22)).alloc (.cells #[.slice none 0 0] 85)).heap.size = w.heap.size + 2 := by rw [World.size_alloc, World.size_alloc]
  rw [← hw6] at bN bO hB0 hz6
  clear hw6
  have fs0 : FSw w n n [] (.slice none 0 0) w6 := ⟨by omega, by simp, bN, bO, World.ownsRow_nil _ _ _ _, hB0⟩
  have HFS := Lib.hid fs0
  clear bN bO hB0 fs0
  go_wp2_with fail
  refine wp_rangeFunc_own (gf := 65) (lb := #[]) rfl (enters_of Try.func65 (by kernel_rfl) rfl) (divisors_stops (Kp := Below w.heap.size) Fence.wide 8 trivial rfl (by omega) w6) belowK_t (belowK_b (by omega)) (Below.refl _ _) (fun _ => rfl)
    (fun pre W => ∃ nn l v, FSw w n nn l v W ∧ (Can pre → TD n (el pre.length) nn l))
    (fun c pre W => c = .exit 0 ∧ ∃ nn l v, FSw w n nn l v W ∧ (Can pre → ∃ d, TD n d nn l ∧ nn < d * d))
    (fun s A B row hs hg hr => by
      obtain ⟨nn, l, v, hf, ht⟩ := hs
      exact ⟨nn, l, v, hf.kept hg fun r e => ⟨by have := (hr r e).1; omega, (hr r e).2⟩, ht⟩)
    (fun c s A B row hs hg hr => by
      obtain ⟨hc, nn, l, v, hf, ht⟩ := hs
      exact ⟨hc, nn, l, v, hf.kept hg fun r e => ⟨by have := (hr r e).1; omega, (hr r e).2⟩, ht⟩)
    ⟨n, [], _, HFS.out, fun _ => TD.start⟩ ?ab ?done ?stop
  case ab =>
    apply Exists.intro
    refine ⟨?_, ?_⟩
    · intro l q W K hK
      simp only [encD]
      gi_wp2
      exact hK
    · rintro lr pre q W ⟨nn, l, v, hf, ht⟩ _
      obtain ⟨d, hd2, hd3⟩ := q
      have c1 := hf.b1.cell
      have hnn : nn ≤ n := Nat.le_trans (Nat.le_mul_of_pos_right nn (Nat.two_pow_pos _)) hf.len
      have hnp := hf.pos
      have HF := Lib.hid hf
      have HT := Lib.hid ht
      have hdd : 0 ≤ (d : Int) * (d : Int) ∧ (d : Int) * (d : Int) ≤ 18446744065119617025 := mul_lt_int32 (by omega) (by omega)
      clear hf ht HFS
      simp only
      by_cases hbr : nn < d * d
      · have q1 : decide ((d : Int) * (d : Int) > (nn : Int)) = true := decide_eq_true (by exact_mod_cast hbr)
        gi_wp2
        exact ⟨KeepsOthers.refl _, rfl, nn, l, v, HF.out, fun hc => ⟨d, by have h1 : d = el pre.length := hc.init.2; rw [h1]; exact HT.out hc.init.1, hbr⟩⟩
      · have q1 : decide ((d : Int) * (d : Int) > (nn : Int)) = false := decide_eq_false (by exact_mod_cast hbr)
        gi_wp2
        gi_loopw [6] (fun p wr => ∃ (kk n2 : Nat), p = .int .i64 (kk : Int) ∧ nn = d ^ kk * n2 ∧ 0 < n2 ∧ Boxed wr w.heap.size 22 (.int .u32 (n2 : Int)) ∧ Boxed wr (w.heap.size + 1) 85 v ∧ wr.ownsRow w.heap.size 90 2 v l.length (cellsOf l) ∧
          KeepsOthers W wr ∧ Below w.heap.size W wr) (fun p _ => 64 - (intOf p).toNat)
        case atStart => exact ⟨0, nn, rfl, by rw [Nat.pow_zero, Nat.one_mul], hnp, HF.out.b1, HF.out.b2, HF.out.row, KeepsOthers.refl _, Below.refl _ _⟩
        case round =>
          obtain ⟨kk, n2, rfl, hnd, hn2, b1, b2, hrow, hko, hbl⟩ := hrel
          have hkb := pow_bound hd2 hnd hn2 (by omega)
          have hn2n : n2 ≤ nn := by rw [hnd]; exact Nat.le_mul_of_pos_left _ (Nat.pos_of_ne_zero fun h => by rw [h, Nat.zero_mul] at hnd; omega)
          have c1 := b1.cell
          have f1 := b1.frozen
          have HND := Lib.hid hnd
          have HR := Lib.hid (And.intro b1 (And.intro b2 (And.intro hrow (And.intro hko hbl))))
          clear hnd b1 b2 hrow hko hbl
          by_cases hdv : d ∣ n2
          · obtain ⟨q, hq⟩ := hdv
            have hq0 : 0 < q := Nat.pos_of_ne_zero fun h => by rw [h, Nat.mul_zero] at hq; omega
            have hmod : (n2 : Int) % (d : Int) = 0 := by rw [hq, Int.natCast_mul]; exact Int.mul_emod_right _ _
            have hmodt : (n2 : Int).tmod (d : Int) = 0 := by rw [Int.tmod_eq_emod_of_nonneg (by omega), hmod]
            have hquo : (n2 : Int) / (d : Int) = (q : Int) := by rw [hq, Int.natCast_mul]; exact Int.mul_ediv_cancel_left _ (by omega)
            have hquot : (n2 : Int).tdiv (d : Int) = (q : Int) := by rw [Int.tdiv_eq_ediv_of_nonneg (by omega), hquo]
            have hd0 : ¬ d = 0 := by omega
            have hqn : q ≤ n2 := by rw [hq]; exact Nat.le_mul_of_pos_left _ (by omega)
            have HQ := Lib.hid hq
            clear hq
            gi_wp2
            go_roundw
            case rel =>
              obtain ⟨b1, b2, hrow, hko, hbl⟩ := HR.out
              have g1 := grownBy_setCell' wr w.heap.size (.int .u32 (q : Int))
              exact ⟨kk + 1, q, by go_num, by rw [HND.out, HQ.out, Nat.pow_succ, Nat.mul_assoc], hq0, b1.set _, b2.kept g1 (by simp), hrow.kept g1 (.inr (b1.not_row (by decide) hrow).symm), hko.trans (KeepsOthers.setCell _ _ _), hbl.setCell (p := ⟨w.heap.size, 0, none⟩) (Nat.le_refl _) _⟩
            case measure => simp only [intOf]; omega
          · have hr0 : 0 < n2 % d := Nat.pos_of_ne_zero fun h => hdv (Nat.dvd_of_mod_eq_zero h)
            obtain ⟨r, hr⟩ : ∃ r, n2 % d = r := ⟨_, rfl⟩
            rw [hr] at hr0
            have hmod : (n2 : Int) % (d : Int) = (r : Int) := by rw [← hr]; simp
            have hmodt : (n2 : Int).tmod (d : Int) = (r : Int) := by rw [Int.tmod_eq_emod_of_nonneg (by omega), hmod]
            have hd0 : ¬ d = 0 := by omega
            have hre : ((r : Int) == 0) = false := by simp; omega
            have hrz : ¬ (r : Int) = 0 := by omega
            clear hr
            by_cases hk0 : kk = 0
            · subst hk0
              rw [Nat.pow_zero, Nat.one_mul] at HND
              gi_wp2
              obtain ⟨b1, b2, hrow, hko, hbl⟩ := HR.out
              have hnn2 : nn = n2 := HND.out
              subst hnn2
              refine ⟨hko, hbl, nn, l, v, ⟨hnp, HF.out.len, b1, b2, hrow, HF.out.bel.trans hbl⟩, fun hc => ?_⟩
              have h1 : d = el pre.length := hc.init.2
              rw [List.length_append, List.length_singleton]
              exact ((HT.out hc.init.1).pass (by omega) (by rw [← h1]; exact hdv)).next (by omega)
            · have hk1 : decide ((kk : Int) > 0) = true := decide_eq_true (by omega)
              obtain ⟨b1, b2, hrow, hko, hbl⟩ := HR.out
              have c2 := b2.cell
              have hll := len_bound HF.out.len hnp hn
              have hsz := HF.out.bel.size
              have hsz2 := hbl.size
              gi_wp2_with (gi_at_builtin; refine wpListIn_append_own _ rfl _ _ 85 rfl w.heap.size 90 i0 (.agg #[.int .u32 0, .int .i64 0]) 2 16 Try.underlying85 hi hz0 hz1 hz2 rfl (by decide) _ _ _ rfl (hrow.alloc _) ⟨wr.heap.size, 0, none⟩ 1 1 [.int .u32 (d : Int), .int .i64 (kk : Int)] rfl rfl (cell_two_new _ _ _ _) (by simp [Value.oneCell']) (by unfold maxLen; omega) (by omega) (by simp; omega) ?_; intro v' w1 hown' hgrow _; obtain ⟨g', cap', rfl⟩ := ownsRow_succ hown'; obtain ⟨hv1, hv2, hr2, hk2, hb2⟩ := b2.appended (by decide) hrow (by omega) (by omega) hown' hgrow; have hc1 := hv1.cell; have hf1 := hv1.frozen; have hb1' := (b1.alloc _).kept hgrow (b1.not_row (by decide) hrow))
              refine ⟨hko.trans hk2, hbl.trans hb2, n2, l ++ [(d, kk)], _, ⟨hn2, ?_, hb1'.kept (grownBy_setCell' w1 (w.heap.size + 1) _) (by simp), hv2, ?_, HF.out.bel.trans (hbl.trans hb2)⟩, fun hc => ?_⟩
              · rw [List.length_append, List.length_singleton]
                exact len_take HF.out.len HND.out hd2 hk0
              · rw [List.length_append, List.length_singleton, cellsOf_snoc]
                exact hr2
              · have h1 : d = el pre.length := hc.init.2
                rw [List.length_append, List.length_singleton]
                have h2 := (HT.out hc.init.1).take (k := kk) (n' := n2) (by rw [← h1]; exact hd2) (by omega) (by rw [← h1]; exact HND.out) (by rw [← h1]; exact hdv)
                rw [← h1] at h2
                exact TD.next (by rw [← h1]; exact h2) (by omega)
  case done =>
    rintro D ys W hD ⟨hcan, hlen⟩ ⟨nn, l, v, hf, ht⟩ hK
    have htd : ∃ d, TD n d nn l ∧ nn < d * d := ⟨65537, by have := ht hcan; rw [hlen] at this; exact this, by
      have := Nat.le_trans (Nat.le_mul_of_pos_right nn (Nat.two_pow_pos _)) hf.len
      omega⟩
    clear ht HFS
    have hnn : nn ≤ n := Nat.le_trans (Nat.le_mul_of_pos_right nn (Nat.two_pow_pos _)) hf.len
    have hll := len_bound hf.len hf.pos hn
    have hsz := hf.bel.size
    have c1 := hf.b1.cell
    have c2 := hf.b2.cell
    have f2 := hf.b2.frozen
    have hnp := hf.pos
    by_cases h1 : 1 < nn
    · have q1 : decide ((nn : Int) > 1) = true := decide_eq_true (by omega)
      have hfac : FacTo n (n + 1) (l ++ [(nn, 1)]) := by
        obtain ⟨d, h2, h3⟩ := htd
        obtain ⟨h4, h5⟩ := h2.rest h1 h3
        exact h2.last (by omega) h4 h5
      have HFAC := Lib.hid hfac
      have HF := Lib.hid hf
      clear hfac htd hf
      go_wp2_with (at_builtin; refine wpList_append_own_at _ rfl _ _ 85 rfl w.heap.size 90 i0 (.agg #[.int .u32 0, .int .i64 0]) 2 16 Try.underlying85 hi hz0 hz1 hz2 rfl (by decide) _ _ _ rfl (HF.out.row.alloc _) ⟨W.heap.size, 0, none⟩ 1 1 [.int .u32 (nn : Int), .int .i64 1] rfl rfl (cell_two_new _ _ _ _) (by simp [Value.oneCell']) (by unfold maxLen; omega) (by omega) (by simp; omega) ?_; intro v' w1 hown' hgrow _ _; obtain ⟨g', cap', rfl⟩ := ownsRow_succ hown'; obtain ⟨hv1, hv2, hr2, hk2, hb2⟩ := HF.out.b2.appended (by decide) HF.out.row (by omega) (by omega) hown' hgrow; have hc1 := hv1.cell; have hf1 := hv1.frozen; have hc2 := hv2.cell)
      have hK' := hk2.same D _ hK rfl
      have hr3 := ownsRow_putObj hr2 (.deferred none) hK' rfl
      have e : cellsOf l ++ [.int .u32 (nn : Int), .int .i64 1] = cellsOf (l ++ [(nn, 1)]) := (cellsOf_snoc l (nn, 1)).symm
      have e2 : l.length + 1 = (l ++ [(nn, 1)]).length := by rw [List.length_append, List.length_singleton]
      rw [e] at hr3
      obtain ⟨A, c, hv, hc, hpw⟩ := pw_of e2 hr3
      injection hv with hv1 hv2 hv3
      subst hv1 hv3
      refine marks_end1 rfl hK' (.tuple #[.slice (some ⟨g', 0, none⟩) (l.length + 1) cap', .int .i64 0]) (by simp [results, Try.f53, go_sem]) ?_
      exact ⟨_, cap', 0, l ++ [(nn, 1)], by rw [← e2]; rfl, by rw [← e2]; exact hc, hpw, .inr ⟨by omega, rfl, HFAC.out, by rw [← e2]; omega⟩, below_shut (HF.out.bel.trans hb2) (by omega) hK'⟩
    · have q1 : decide ((nn : Int) > 1) = false := decide_eq_false (by omega)
      have h1' : nn = 1 := by omega
      have hfac : FacTo n (n + 1) l := by
        obtain ⟨d, h2, h3⟩ := htd
        rw [h1'] at h2
        exact h2.over (by omega)
      have hr3 := ownsRow_putObj hf.row (.deferred none) hK rfl
      obtain ⟨A, c, rfl, hc, hpw⟩ := pw_of rfl hr3
      have hbb := below_shut hf.bel (by omega) hK
      have H := Lib.hid (And.intro hfac (And.intro hpw hbb))
      clear hfac htd hf hr3 hpw hbb
      go_wp2
      refine marks_end1 rfl hK (.tuple #[.slice A l.length c, .int .i64 0]) (by simp [results, Try.f53, go_sem]) ?_
      exact ⟨A, c, 0, l, rfl, hc, H.out.2.1, .inr ⟨by omega, rfl, H.out.1, by omega⟩, H.out.2.2⟩
  case stop =>
    rintro D c pre W hD hcan ⟨rfl, nn, l, v, hf, ht⟩ hK
    have htd := ht hcan
    clear ht HFS
    have hnn : nn ≤ n := Nat.le_trans (Nat.le_mul_of_pos_right nn (Nat.two_pow_pos _)) hf.len
    have hll := len_bound hf.len hf.pos hn
    have hsz := hf.bel.size
    have c1 := hf.b1.cell
    have c2 := hf.b2.cell
    have f2 := hf.b2.frozen
    have hnp := hf.pos
    by_cases h1 : 1 < nn
    · have q1 : decide ((nn : Int) > 1) = true := decide_eq_true (by omega)
      have hfac : FacTo n (n + 1) (l ++ [(nn, 1)]) := by
        obtain ⟨d, h2, h3⟩ := htd
        obtain ⟨h4, h5⟩ := h2.rest h1 h3
        exact h2.last (by omega) h4 h5
      have HFAC := Lib.hid hfac
      have HF := Lib.hid hf
      clear hfac htd hf
      go_wp2_with (at_builtin; refine wpList_append_own_at _ rfl _ _ 85 rfl w.heap.size 90 i0 (.agg #[.int .u32 0, .int .i64 0]) 2 16 Try.underlying85 hi hz0 hz1 hz2 rfl (by decide) _ _ _ rfl (HF.out.row.alloc _) ⟨W.heap.size, 0, none⟩ 1 1 [.int .u32 (nn : Int), .int .i64 1] rfl rfl (cell_two_new _ _ _ _) (by simp [Value.oneCell']) (by unfold maxLen; omega) (by omega) (by simp; omega) ?_; intro v' w1 hown' hgrow _ _; obtain ⟨g', cap', rfl⟩ := ownsRow_succ hown'; obtain ⟨hv1, hv2, hr2, hk2, hb2⟩ := HF.out.b2.appended (by decide) HF.out.row (by omega) (by omega) hown' hgrow; have hc1 := hv1.cell; have hf1 := hv1.frozen; have hc2 := hv2.cell)
      have hK' := hk2.same D _ hK rfl
      have hr3 := ownsRow_putObj hr2 (.deferred none) hK' rfl
      have e : cellsOf l ++ [.int .u32 (nn : Int), .int .i64 1] = cellsOf (l ++ [(nn, 1)]) := (cellsOf_snoc l (nn, 1)).symm
      have e2 : l.length + 1 = (l ++ [(nn, 1)]).length := by rw [List.length_append, List.length_singleton]
      rw [e] at hr3
      obtain ⟨A, c, hv, hc, hpw⟩ := pw_of e2 hr3
      injection hv with hv1 hv2 hv3
      subst hv1 hv3
      refine marks_end1 rfl hK' (.tuple #[.slice (some ⟨g', 0, none⟩) (l.length + 1) cap', .int .i64 0]) (by simp [results, Try.f53, go_sem]) ?_
      exact ⟨_, cap', 0, l ++ [(nn, 1)], by rw [← e2]; rfl, by rw [← e2]; exact hc, hpw, .inr ⟨by omega, rfl, HFAC.out, by rw [← e2]; omega⟩, below_shut (HF.out.bel.trans hb2) (by omega) hK'⟩
    · have q1 : decide ((nn : Int) > 1) = false := decide_eq_false (by omega)
      have h1' : nn = 1 := by omega
      have hfac : FacTo n (n + 1) l := by
        obtain ⟨d, h2, h3⟩ := htd
        rw [h1'] at h2
        exact h2.over (by omega)
      have hr3 := ownsRow_putObj hf.row (.deferred none) hK rfl
      obtain ⟨A, c, rfl, hc, hpw⟩ := pw_of rfl hr3
      have hbb := below_shut hf.bel (by omega) hK
      have H := Lib.hid (And.intro hfac (And.intro hpw hbb))
      clear hfac htd hf hr3 hpw hbb
      go_wp2
      refine marks_end1 rfl hK (.tuple #[.slice A l.length c, .int .i64 0]) (by simp [results, Try.f53, go_sem]) ?_
      exact ⟨A, c, 0, l, rfl, hc, H.out.2.1, .inr ⟨by omega, rfl, H.out.1, by omega⟩, H.out.2.2⟩
end Go.Proofs.Ytcnkddoipmaddaa
