/- The contract of Make of layer 25. -/
import Derived.Test.YtmidpholmgmdpaaMg25
import Derived.Test.YtmidpholmgmdpaaRn25
import Derived.Laws.EntriesVeiled
namespace Go.Proofs.Ytmidpholmgmdpaa
open Go.RowKit
open Go.Maps (Keyed)
set_option linter.unusedVariables false

def PolyOk (t m : Nat) (a : Nat → Int) : Prop := (∀ i, i < m → balB t (a i) = true) ∧ (0 < m → a (m - 1) ≠ 0)
open Classical in
/-- what is said of a polynomial -/
noncomputable def polyE (t m : Nat) (a : Nat → Int) : Int := if modB t = true then (if 256 < m then 3 else if PolyOk t m a then 0 else 2) else 2
def copyS (r : Nat) : PS := ⟨false, 0, 0, 0, r + 1, fun j => if j = r then 1 else 0⟩
def sta0 : MSt := ⟨0, fun _ => ⟨false, 0, 0, 0, 0, fun _ => 0⟩, upd (fun _ => none) 1 (some 0), 1⟩
def babyOf (m : Nat) : Nat := 2 ^ ((Lib.bitLen (m - 2) + 1) / 2)
/-- the plan that Make makes -/
inductive MakeR (m : Nat) (a : Nat → Int) : MSt → Prop
  | last {σ1 σ2 : MSt} {s : Int} {f : Nat → Option Int} {r : Nat} (h1 : FormR (babyOf m) sta0 m a σ1 s f) (h2 : RegR σ1 s f σ2 (r : Int)) (h3 : ¬ ((r : Int) < (σ2.n : Int))) (h4 : r ≠ 0) : MakeR m a σ2
  | copy {σ1 σ2 : MSt} {s : Int} {f : Nat → Option Int} {r : Nat} (h1 : FormR (babyOf m) sta0 m a σ1 s f) (h2 : RegR σ1 s f σ2 (r : Int)) (h3 : (r : Int) < (σ2.n : Int) ∨ r = 0) : MakeR m a (σ2.push (copyS r))
/-- what Make leaves -/
def RetMake (w : World) (t m : Nat) (a : Nat → Int) (e : Ending) (w' : World) : Prop :=
  Below w.heap.size w w' ∧ ((polyE t m a ≠ 0 ∧ e = .returned (.tuple #[.slice none 0 0, .int .i64 (polyE t m a)])) ∨
    (polyE t m a = 0 ∧ ∃ σ A c, MakeR m a σ ∧ e = .returned (.tuple #[.slice A σ.n c, .int .i64 0]) ∧ Pln w' w'.heap.size A σ.n σ.s))

theorem plnL_get (s : Nat → PS) (C : Nat → Option Addr) (cc : Nat → Nat) (n : Nat) : ∀ i, i < n → ∀ q, q < 5 → (plnL s C cc n)[i * 5 + q]? = (stpL (s i) (C i) (cc i))[q]? := by
  induction n with
  | zero => intro i hi; omega
  | succ n ih =>
    intro i hi q hq
    unfold plnL
    by_cases h : i < n
    · rw [List.getElem?_append_left (by rw [plnL_len]; omega)]
      exact ih i h q hq
    · obtain rfl : i = n := by omega
      rw [List.getElem?_append_right (by rw [plnL_len]; omega), plnL_len]
      congr 1
      omega
/-- the plan in memory -/
theorem MK.pln {w : World} {t b M : Nat} {σ : MSt} (h : MK w t b M σ) : ∃ A c, w.cell? ⟨b, 1, none⟩ = some (.slice A σ.n c) ∧ Pln w w.heap.size A σ.n σ.s := by
  obtain ⟨A, c, C, cc, N, h1, h2, h3, h4, h5, h6⟩ := h
  refine ⟨A, c, by rw [Go.cell_of_row w b 1 _ _ _ h1]; rfl, fun hn => ?_⟩
  have h2' := h2
  rcases h2.2 with ⟨_, h0⟩ | ⟨g, cap, cur, hv, hg, hh, _⟩
  · omega
  · injection hv with e1 e2 e3
    subst e1 e3
    refine ⟨g, 0, rfl, (Array.getElem?_eq_some_iff.1 hh).1, fun i hi => ?_⟩
    have hc : ∀ q, q < 5 → w.cell? ⟨g, 0 + i * 5 + q, none⟩ = (stpL (σ.s i) (C i) (cc i))[q]? := fun q hq => by
      rw [Nat.zero_add, h2'.cellAt _ (by omega)]
      exact plnL_get _ _ _ _ i hi q hq
    obtain ⟨k1, k2, k3⟩ := h3 i hi
    refine ⟨hc 0 (by omega), hc 1 (by omega), hc 2 (by omega), hc 3 (by omega), C i, cc i, hc 4 (by omega), ⟨k2, fun hp => ?_⟩, by omega⟩
    obtain ⟨g', cur', fr, e1, e2, e3, e4⟩ := k3 hp
    refine ⟨g', 0, e1, Nat.zero_le _, e3.1, fun j hj => ?_⟩
    rw [Nat.zero_add, Go.cell_of_row w g' j _ _ _ e2]
    exact e4 j hj
/-- where Make begins -/
theorem make_start {w w2 : World} {t N2 m bb : Nat} {A : Option Addr} {a : Nat → Int} {o1 o2 o3 : Obj} (hg : (w.alloc (.map #[] 0)).grownBy w2 (some w.heap.size)) (hi : IMap w2 3 w.heap.size N2 (upd (fun _ => none) 1 (some 0))) (hN : N2 ≤ 0 + 1) (ha : Z.Sq .i64 w 0 w.heap.size A m a)
    (e1 : o1 = .cells #[.pointer (some ⟨w2.heap.size, 0, none⟩)] 56) (e2 : o2 = .cells #[.int .i64 (bb : Int)] 3)
    (e3 : o3 = .cells #[.func (.func 41) #[] #[.pointer (some ⟨w2.heap.size + 1 + 1, 0, none⟩), .pointer (some ⟨w2.heap.size + 1, 0, none⟩), .pointer (some ⟨w2.heap.size + 1 + 1 + 1, 0, none⟩)]] 62) :
    MK ((((w2.alloc (.cells #[.int .u32 (t : Int), .slice none 0 0, .map (some w.heap.size)] 59)).alloc o1).alloc o2).alloc o3) t w2.heap.size w.heap.size sta0 ∧ FE ((((w2.alloc (.cells #[.int .u32 (t : Int), .slice none 0 0, .map (some w.heap.size)] 59)).alloc o1).alloc o2).alloc o3) w2.heap.size w.heap.size (w2.heap.size + 1 + 1) (w2.heap.size + 1) (w2.heap.size + 1 + 1 + 1) bb ∧
      SqO ((((w2.alloc (.cells #[.int .u32 (t : Int), .slice none 0 0, .map (some w.heap.size)] 59)).alloc o1).alloc o2).alloc o3) w2.heap.size w.heap.size A m a ∧ Below w.heap.size w ((((w2.alloc (.cells #[.int .u32 (t : Int), .slice none 0 0, .map (some w.heap.size)] 59)).alloc o1).alloc o2).alloc o3) ∧
      (∀ g, g < w.heap.size → Out ((((w2.alloc (.cells #[.int .u32 (t : Int), .slice none 0 0, .map (some w.heap.size)] 59)).alloc o1).alloc o2).alloc o3) w2.heap.size w.heap.size g) := by
  subst e1 e2 e3
  have hz := hg.size
  rw [World.size_alloc] at hz
  obtain ⟨W1, hW1⟩ : ∃ W, W = w2.alloc (.cells #[.int .u32 (t : Int), .slice none 0 0, .map (some w.heap.size)] 59) := ⟨_, rfl⟩
  obtain ⟨W2, hW2⟩ : ∃ W, W = W1.alloc (.cells #[.pointer (some ⟨w2.heap.size, 0, none⟩)] 56) := ⟨_, rfl⟩
  obtain ⟨W3, hW3⟩ : ∃ W, W = W2.alloc (.cells #[.int .i64 (bb : Int)] 3) := ⟨_, rfl⟩
  obtain ⟨W4, hW4⟩ : ∃ W, W = W3.alloc (.cells #[.func (.func 41) #[] #[.pointer (some ⟨w2.heap.size + 1 + 1, 0, none⟩), .pointer (some ⟨w2.heap.size + 1, 0, none⟩), .pointer (some ⟨w2.heap.size + 1 + 1 + 1, 0, none⟩)]] 62) := ⟨_, rfl⟩
  rw [← hW1, ← hW2, ← hW3, ← hW4]
  have z1 : W1.heap.size = w2.heap.size + 1 := by rw [hW1, World.size_alloc]
  have z2 : W2.heap.size = w2.heap.size + 2 := by rw [hW2, World.size_alloc, z1]
  have z3 : W3.heap.size = w2.heap.size + 3 := by rw [hW3, World.size_alloc, z2]
  have z4 : W4.heap.size = w2.heap.size + 4 := by rw [hW4, World.size_alloc, z3]
  have b0 : ∀ q, q < w2.heap.size → W4.heap[q]? = w2.heap[q]? := fun q hq => by
    rw [hW4, Below.heap_alloc _ _ _ (by omega), hW3, Below.heap_alloc _ _ _ (by omega), hW2, Below.heap_alloc _ _ _ (by omega), hW1, Below.heap_alloc _ _ _ hq]
  have n0 : W4.heap[w2.heap.size]? = some (.cells #[.int .u32 (t : Int), .slice none 0 0, .map (some w.heap.size)] 59 (0, 0)) := by
    rw [hW4, Below.heap_alloc _ _ _ (by omega), hW3, Below.heap_alloc _ _ _ (by omega), hW2, Below.heap_alloc _ _ _ (by omega), hW1]
    exact heap_alloc_new w2 _
  have n1 : W4.heap[w2.heap.size + 1]? = some (.cells #[.pointer (some ⟨w2.heap.size, 0, none⟩)] 56 (0, 0)) := by
    rw [hW4, Below.heap_alloc _ _ _ (by omega), hW3, Below.heap_alloc _ _ _ (by omega), hW2, ← z1]
    exact heap_alloc_new W1 _
  have n2 : W4.heap[w2.heap.size + 1 + 1]? = some (.cells #[.int .i64 (bb : Int)] 3 (0, 0)) := by
    rw [hW4, Below.heap_alloc _ _ _ (by omega), hW3, show w2.heap.size + 1 + 1 = W2.heap.size from by omega]
    exact heap_alloc_new W2 _
  have n3 : W4.heap[w2.heap.size + 1 + 1 + 1]? = some (.cells #[.func (.func 41) #[] #[.pointer (some ⟨w2.heap.size + 1 + 1, 0, none⟩), .pointer (some ⟨w2.heap.size + 1, 0, none⟩), .pointer (some ⟨w2.heap.size + 1 + 1 + 1, 0, none⟩)]] 62 (0, 0)) := by
    rw [hW4, show w2.heap.size + 1 + 1 + 1 = W3.heap.size from by omega]
    exact heap_alloc_new W3 _
  have hpb : ∀ g, ¬ PB W4 w2.heap.size g := fun g hp => by
    obtain ⟨o, n, c, hc⟩ := hp
    rw [Go.cell_of_row _ _ 1 _ _ _ n0] at hc
    cases hc
  have hold : ∀ g, g < w.heap.size → W4.heap[g]? = w.heap[g]? := fun g hgl => by
    rw [b0 g (by omega), hg.block g (by rw [World.size_alloc]; omega) (fun e => by injection e; omega), Below.heap_alloc _ _ _ hgl]
  have ho : ∀ g, g < w.heap.size → Out W4 w2.heap.size w.heap.size g := fun g hgl => ⟨by omega, by omega, by omega, hpb g⟩
  have hb : Below w.heap.size w W4 := ⟨by rw [hW4, hW3, hW2, hW1]; exact hg.os, by rw [hW4, hW3, hW2, hW1]; exact hg.tape, by rw [hW4, hW3, hW2, hW1]; exact hg.output, by omega, hold⟩
  refine ⟨⟨none, 0, fun _ => none, fun _ => 0, N2, n0, ⟨rfl, .inl ⟨rfl, rfl⟩⟩, fun i hi => absurd hi (Nat.not_lt_zero i), hi.block (b0 _ (by omega)), hN, by omega⟩, ⟨⟨by omega, by omega, by omega, hpb _⟩, ⟨by omega, by omega, by omega, hpb _⟩, ⟨by omega, by omega, by omega, hpb _⟩, Go.cell_of_row _ _ 0 _ _ _ n2, Go.cell_of_row _ _ 0 _ _ _ n1, Go.cell_of_row _ _ 0 _ _ _ n3⟩, ⟨ha.1, fun hm => ?_⟩, hb, ho⟩
  obtain ⟨g, off, h1, _, h2, h3⟩ := ha.2 hm
  exact ⟨g, off, h1, ho g h2, fun j hj => (World.cell?_of_block (w := w) (hold g h2)).trans (h3 j hj)⟩
theorem sta0_ok : sta0.Ok := ⟨rfl, fun k r h => by
  by_cases e : k = 1
  · subst e
    have h2 : some (0 : Int) = some r := (upd_same (fun _ => none) 1 _).symm.trans h
    injection h2 with h2
    subst h2
    exact ⟨Int.le_refl _, Int.le_refl _⟩
  · have h2 : (none : Option Int) = some r := (upd_other (fun _ => none) (some 0) e).symm.trans h
    cases h2⟩
theorem babyOf_bound {m : Nat} (h : m ≤ 256) : 1 ≤ babyOf m ∧ babyOf m ≤ 16 := by
  unfold babyOf
  refine ⟨Nat.one_le_two_pow, ?_⟩
  have hL : Lib.bitLen (m - 2) ≤ 8 := by
    by_cases h0 : m - 2 = 0
    · rw [h0]; decide
    · obtain ⟨h1, h2, _⟩ := bitLen_pow (x := m - 2) (by omega) (by omega)
      rcases Nat.lt_or_ge 8 (Lib.bitLen (m - 2)) with h3 | h3
      · have := Nat.pow_le_pow_right (show 0 < 2 by omega) (show 8 ≤ Lib.bitLen (m - 2) - 1 by omega)
        omega
      · exact h3
  have := Nat.pow_le_pow_right (show 0 < 2 by omega) (show (Lib.bitLen (m - 2) + 1) / 2 ≤ 4 by omega)
  exact this
/-- a new row of constants -/
theorem csAt_row {w : World} {b M g n : Nat} {S : PS} (h : w.rowIs g 2 n (Z.ku .i64 S.cs)) (hn : S.n = n) (hN : n ≤ 1000000) (hz : ∀ j, n ≤ j → S.cs j = 0) (ho : Out w b M g) : CsAt w b M (some ⟨g, 0, none⟩) S := by
  subst hn
  obtain ⟨cs, hh, hs, hcs⟩ := h
  exact ⟨hN, hz, fun _ => ⟨g, cs, _, rfl, hh, ho, fun j hj => hcs j hj⟩⟩
theorem kp_below {w w5 w6 : World} {b M : Nat} (hb : Below w.heap.size w w5) (ho : ∀ g, g < w.heap.size → Out w5 b M g) (k : Kp b M w5 w6) : Below w.heap.size w w6 :=
  ⟨k.os.trans hb.os, k.tape.trans hb.tape, k.output.trans hb.output, Nat.le_trans hb.size k.size, fun g hg => (k.block g (ho g hg)).1.trans (hb.block g hg)⟩

set_option maxRecDepth 100000 in
set_option maxHeartbeats 40000000 in
theorem make25_any (t m cap : Nat) (A : Option Addr) (a : Nat → Int) (w : World) (ht : t ≤ 4294967295) (ha : Z.Sq .i64 w 0 w.heap.size A m a) (hmc : m ≤ cap) (hcap : cap ≤ 9223372036854775807) :
    Calls Try.prog 16 #[.int .u32 t, .slice A m cap] w (RetMake w t m a) := by
  have HM := Lib.hid (modulus25_any t w ht)
  have HA := Lib.hid ha
  clear ha
  by_cases hm : modB t = true
  rotate_left
  · have hmf : modB t = false := by simpa using hm
    have HE : Hid (polyE t m a = 2) := Lib.hid (by unfold polyE; rw [if_neg hm])
    rw [hmf] at HM
    clear hm hmf
    go_enter Try.func16, Try.ntmps16
    go_wp2_with (go_at_call 39; refine HM.out.mono ?_; rintro e w' ⟨rfl, hw⟩; subst hw)
    go_ret2
    exact ⟨Below.refl _ _, .inl ⟨by rw [HE.out]; decide, by rw [HE.out]; rfl⟩⟩
  obtain ⟨ht3, htm, hodd⟩ := modB_yes.1 hm
  have HMB := Lib.hid hm
  rw [hm] at HM
  clear hm
  by_cases hbig : 256 < m
  · have HE : Hid (polyE t m a = 3) := Lib.hid (by unfold polyE; rw [if_pos HMB.out, if_pos hbig])
    have e1 : decide ((m : Int) > 256) = true := decide_eq_true (by omega)
    have e2 : decide (256 < m) = true := decide_eq_true (by omega)
    go_enter Try.func16, Try.ntmps16
    go_wp2_with (go_at_call 39; refine HM.out.mono ?_; rintro e w' ⟨rfl, hw⟩; subst hw)
    go_ret2
    exact ⟨Below.refl _ _, .inl ⟨by rw [HE.out]; decide, by rw [HE.out]; rfl⟩⟩
  have HNB := Lib.hid hbig
  have e1 : decide ((m : Int) > 256) = false := decide_eq_false (by omega)
  have e2 : decide (256 < m) = false := decide_eq_false (by omega)
  have hmm := @run_makeMap Try.prog
  go_enter Try.func16, Try.ntmps16
  go_wp2_with (go_at_call 39; refine HM.out.mono ?_; rintro e w' ⟨rfl, hw⟩; subst hw)
  go_loop [23] (fun I => ∃ i : Nat, I = .int .i64 (i : Int) ∧ i ≤ m ∧ ∀ j, j < i → balB t (a j) = true) (fun I => m - (intOf I).toNat)
  case atStart => exact ⟨0, rfl, Nat.zero_le _, fun j hj => by omega⟩
  case round =>
    obtain ⟨i, rfl, him, hall⟩ := hrel
    have HAL := Lib.hid hall
    clear hall
    by_cases hin : i < m
    · have e3 : decide ((i : Int) < (m : Int)) = true := decide_eq_true (by omega)
      obtain ⟨g, off, rfl, _, hg, hcell⟩ := HA.out.2 (by omega)
      have k1 := hcell i hin
      obtain ⟨v, hv⟩ : ∃ v, a i = v := ⟨_, rfl⟩
      rw [hv] at k1
      have HBA := Lib.hid (balanced25_any t v w ht3 htm hodd)
      have i0 : 0 ≤ (i : Int) := by omega
      have i1 : (i : Int) < (m : Int) := by omega
      cases hbv : balB t v with
      | false =>
        rw [hbv] at HBA
        have HE : Hid (polyE t m a = 2) := Lib.hid (by
          unfold polyE
          rw [if_pos HMB.out, if_neg HNB.out, if_neg]
          intro h
          have := h.1 i hin
          rw [hv, hbv] at this
          cases this)
        clear hcell hv hbv
        go_wp2_with (go_at_call 31; refine HBA.out.mono ?_; rintro e w' ⟨rfl, hw⟩; subst hw)
        go_ret2
        exact ⟨Below.refl _ _, .inl ⟨by rw [HE.out]; decide, by rw [HE.out]; rfl⟩⟩
      | true =>
        rw [hbv] at HBA
        have HALN : Hid (∀ j, j < i + 1 → balB t (a j) = true) := Lib.hid fun j hj => by
          rcases Nat.lt_or_eq_of_le (Nat.le_of_lt_succ hj) with h6 | h6
          · exact HAL.out j h6
          · rw [h6, hv]; exact hbv
        clear hcell hv hbv
        go_wp2_with (go_at_call 31; refine HBA.out.mono ?_; rintro e w' ⟨rfl, hw⟩; subst hw)
        go_round
        case rel => exact ⟨i + 1, by go_num, hin, HALN.out⟩
        case measure => simp only [intOf]; omega
    · obtain rfl : m = i := by omega
      have e3 : decide ((m : Int) < (m : Int)) = false := decide_eq_false (by omega)
      have hcase : m = 0 ∨ (0 < m ∧ a (m - 1) = 0) ∨ (0 < m ∧ a (m - 1) ≠ 0) := by omega
      rcases hcase with hm0 | ⟨hm0, ham⟩ | ⟨hm0, ham⟩
      · have d1 : decide ((m : Int) > 0) = false := decide_eq_false (by omega)
        have d2 : decide (0 < m) = false := decide_eq_false (by omega)
        have HPO : Hid (polyE t m a = 0) := Lib.hid (by
          unfold polyE
          rw [if_pos HMB.out, if_neg HNB.out, if_pos]
          exact ⟨HAL.out, fun h => by omega⟩)
        clear hm0
        obtain ⟨w2, hrun2, hg2, N2, hi2, hN2⟩ := imap_run (IMap.made w 3) 57 Try.underlying57 Try.underlying3 (by omega) 1 0 (by omega) (by omega) (by omega)
        have hrun2' : (Instr.mapUpdate 57 (.map (some w.heap.size)) (.int .i64 1) (.int .i64 0)).run Try.prog (w.alloc (.map #[] 0)) = .ok () w2 := hrun2
        have HG2 := Lib.hid hg2
        have HI2 := Lib.hid hi2
        clear hrun2 hg2 hi2
        obtain ⟨L, hL⟩ : ∃ L, Lib.bitLen (m - 2) = L := ⟨_, rfl⟩
        have hLc : ((m - 2 : Nat) : Int) = max 1 ((m : Int) - 1) - 1 := by omega
        have HBL : Hid (∀ W : World, Calls Try.prog 40 #[.int .u64 (max 1 ((m : Int) - 1) - 1)] W (RetP W (.int .i64 (L : Int)))) := Lib.hid fun W => hLc ▸ hL ▸ bitsLen_any (m - 2) W (by omega)
        have hL9 : L ≤ 64 := by rw [← hL]; exact bitLenAux_le 64 _
        obtain ⟨q, hq⟩ : ∃ q, (L + 1) / 2 = q := ⟨_, rfl⟩
        have q1 : ((L : Int) + 1) / 2 = (q : Int) := by omega
        have q3 : ((L : Int) + 1).tdiv 2 = (q : Int) := by rw [Int.tdiv_eq_ediv_of_nonneg (by omega)]; omega
        have q4 : q ≤ 32 := by omega
        have HQ := Lib.hid (And.intro hL hq)
        clear hL hLc hq
        go_wp2_with (go_at_call 40; refine (HBL.out _).mono ?_; rintro e w' ⟨rfl, hw⟩; subst hw)
        have hbb := babyOf_bound (m := m) (by omega)
        obtain ⟨bb, hbbe⟩ : ∃ bb, babyOf m = bb := ⟨_, rfl⟩
        rw [hbbe] at hbb
        have HWQ : Hid (wrap64 ((2 : Int) ^ q) = (bb : Int)) := Lib.hid (by
          have e : (2 : Int) ^ q = (bb : Int) := by
            rw [← hbbe]
            unfold babyOf
            rw [HQ.out.1, HQ.out.2]
            simp
          rw [e]
          exact IntWalk.wrap64_in _ (by omega))
        have HBB := Lib.hid hbbe
        clear hbbe
        rw [HWQ.out]
        clear HBL hrun2'
        obtain ⟨w5, hw5⟩ : ∃ w5, w5 = ((((w2.alloc (.cells #[.int .u32 (t : Int), .slice none 0 0, .map (some w.heap.size)] 59)).alloc (.cells #[.pointer (some ⟨w2.heap.size, 0, none⟩)] 56)).alloc (.cells #[.int .i64 (bb : Int)] 3)).alloc (.cells #[.func (.func 41) #[] #[.pointer (some ⟨w2.heap.size + 1 + 1, 0, none⟩), .pointer (some ⟨w2.heap.size + 1, 0, none⟩), .pointer (some ⟨w2.heap.size + 1 + 1 + 1, 0, none⟩)]] 62)) := ⟨_, rfl⟩
        rw [← hw5]
        have hst := make_start (t := t) (bb := bb) HG2.out HI2.out (by omega) HA.out rfl rfl rfl
        rw [← hw5] at hst
        obtain ⟨hmk5, hfe5, hsq5, hb5, ho5⟩ := hst
        have HMK5 := Lib.hid hmk5
        have HFE5 := Lib.hid hfe5
        have HSQ5 := Lib.hid hsq5
        have HBL0 := Lib.hid hb5
        have HOUT0 := Lib.hid ho5
        clear hw5 hmk5 hfe5 hsq5 hb5 ho5
        have hmm2 : m * m ≤ 65536 := Nat.mul_le_mul (show m ≤ 256 by omega) (show m ≤ 256 by omega)
        have HCB : Hid (∀ j, -2147483648 ≤ a j ∧ a j ≤ 2147483648) := Lib.hid fun j => by
          by_cases hj : j < m
          · have := balB_b htm (HAL.out j hj); omega
          · rw [HA.out.1 j (by omega)]; omega
        have hkd : Kp w2.heap.size w.heap.size w5 w5.drew := Kp.of_below (below_drewN (Below.refl _ _) 1) HMK5.out.lt.1
        have hmkd : MK w5.drew t w2.heap.size w.heap.size sta0 := HMK5.out.below (below_drewN (Below.refl _ _) 1)
        have HKD := Lib.hid hkd
        have HFO := Lib.hid (mform_any t w2.heap.size w.heap.size (w2.heap.size + 1 + 1) (w2.heap.size + 1) (w2.heap.size + 1 + 1 + 1) bb (by omega) (by omega) m sta0 a A cap w5.drew hmkd (HFE5.out.kp hkd) (HSQ5.out.kp hkd) hmc hcap (by omega) sta0_ok (by show 0 + 2 * (m * m) ≤ _; omega) (by show 1 + 2 * (m * m) ≤ _; omega) HCB.out)
        have HSS : Hid (∀ W, Kp w2.heap.size w.heap.size w5 W → W.cell? ⟨w2.heap.size + 1, 0, none⟩ = some (.pointer (some ⟨w2.heap.size, 0, none⟩)) ∧ W.cell? ⟨w2.heap.size + 1 + 1 + 1, 0, none⟩ = some (.func (.func 41) #[] #[.pointer (some ⟨w2.heap.size + 1 + 1, 0, none⟩), .pointer (some ⟨w2.heap.size + 1, 0, none⟩), .pointer (some ⟨w2.heap.size + 1 + 1 + 1, 0, none⟩)])) := Lib.hid fun W hk => ⟨(HFE5.out.kp hk).cm, (HFE5.out.kp hk).cf⟩
        clear hkd hmkd hmm
        go_region_held3 (fun w' => w'.cell? ⟨w2.heap.size + 1, 0, none⟩ = some (.pointer (some ⟨w2.heap.size, 0, none⟩)) ∧ w'.cell? ⟨w2.heap.size + 1 + 1 + 1, 0, none⟩ = some (.func (.func 41) #[] #[.pointer (some ⟨w2.heap.size + 1 + 1, 0, none⟩), .pointer (some ⟨w2.heap.size + 1, 0, none⟩), .pointer (some ⟨w2.heap.size + 1 + 1 + 1, 0, none⟩)]))
          (first
            | exact HSS.out _ (Kp.refl _ _ _)
            | exact HSS.out _ HKD.out
            | exact HSS.out _ HK6.out
            | exact HSS.out _ HK7.out
            | fail)
          (first
            | (go_at_call 41
               ((with_reducible refine HFO.out.mono ?_); rintro e w6 ⟨σ1, a1, f1, P1, N1, hfr1, rfl, hm6, hk6, hi6, hN6, hP6, ho6⟩)
               have hfc1 := hfr1.facts (by omega) (by omega) sta0_ok
               have HFR1 := Lib.hid hfr1
               have HOK1 := Lib.hid hfc1.1
               have HFN1 := Lib.hid hfc1.2.2.2.2
               have hn1b : σ1.n ≤ 0 + 2 * (m * m) := hfc1.2.2.1
               have HK6 := Lib.hid (HKD.out.trans hk6)
               have HRE := Lib.hid (mregister_any t w2.heap.size w.heap.size P1 N1 a1 f1 σ1 w6 hm6 hi6 ho6 hfc1.2.2.2.2 (by omega) (by omega))
               clear hfr1 hm6 hk6 hi6 hP6 ho6 hfc1 hN6)
            | (go_at_call 43
               ((with_reducible refine HRE.out.mono ?_); rintro e w7 ⟨σ2, r2, hre, rfl, hm7, hk7⟩)
               have hfc2 := hre.ok HOK1.out HFN1.out
               obtain ⟨r, rfl, hr⟩ : ∃ r : Nat, r2 = (r : Int) ∧ r ≤ σ2.n := ⟨r2.toNat, by omega, by omega⟩
               have HRE2 := Lib.hid hre
               have hn2 := hfc2.2.2.2.1
               have HK7 := Lib.hid (HK6.out.trans hk7)
               have HM7 := Lib.hid hm7
               clear hre hm7 hk7 hfc2)
            | fail)
        all_goals
          obtain ⟨A7, c7, k7b, hpl7⟩ := HM7.out.pln
          have k7m := (HSS.out _ HK7.out).1
          have HPL7 := Lib.hid hpl7
          clear hpl7
          have hcase : r < σ2.n ∨ (σ2.n ≤ r ∧ r = 0) ∨ (σ2.n ≤ r ∧ r ≠ 0) := by omega
          rcases hcase with h1 | ⟨h1, h2⟩ | ⟨h1, h2⟩
          · have d5 : decide ((r : Int) < (σ2.n : Int)) = true := decide_eq_true (by omega)
            have HLT : Hid ((r : Int) < (σ2.n : Int) ∨ r = 0) := Lib.hid (.inl (by omega))
            have e64k : ElemOf Try.prog 23 2 .i64 8 := e64m
            have HE64 := Lib.hid e64k
            clear e64k
            go_wp2_with (at_make; refine Z.wpl_make rfl _ _ _ rfl HE64.out .i64 .i64 _ _ (r + 1) rfl rfl (by omega) (by omega) (by omega) (by unfold maxLen; omega) ?_; intro w8 hr8 hb8 hs8; have k8 := hr8.cell (show r < r + 1 by omega); have k8f := hr8.frozen r; have HB9 := Lib.hid (hb8.setCell (p := ⟨w7.heap.size, r, none⟩) (Nat.le_refl _) (.int .i64 1)); have HR9 := Lib.hid (Z.rowIs_set_ku hr8 r 1); have k9m : (w8.setCell ⟨w7.heap.size, r, none⟩ (.int .i64 1)).cell? ⟨w2.heap.size + 1, 0, none⟩ = some (.pointer (some ⟨w2.heap.size, 0, none⟩)) := (HSS.out _ (HK7.out.trans (Kp.of_below HB9.out HM7.out.lt.1))).1; clear hr8 hb8 hs8)
            have HK9 := Lib.hid (HK7.out.trans (Kp.of_below HB9.out HM7.out.lt.1))
            have hz9 := HR9.out.lt
            have hst : Calls Try.prog 44 #[.pointer (some ⟨w2.heap.size, 0, none⟩), .agg #[.bool false, .int .i64 0, .int .i64 0, .int .i64 0, .slice (some ⟨w7.heap.size, 0, none⟩) (r + 1) (r + 1)]] (w8.setCell ⟨w7.heap.size, r, none⟩ (.int .i64 1)) (RetMk (w8.setCell ⟨w7.heap.size, r, none⟩ (.int .i64 1)) t w2.heap.size w.heap.size fun σ' r' => σ' = σ2.push (copyS r) ∧ r' = (σ2.n : Int) + 1) :=
              mstep_any t w2.heap.size w.heap.size σ2 (copyS r) (some ⟨w7.heap.size, 0, none⟩) (r + 1) _ (HM7.out.below HB9.out) (csAt_row (S := copyS r) HR9.out rfl (by omega) (fun j hj => if_neg (by omega)) (HM7.out.new HB9.out (Nat.le_refl _) hz9)) (by omega)
            have HST := Lib.hid hst
            clear hst
            refine HST.out.mono ?_
            rintro e w10 ⟨σ5, r5, ⟨rfl, rfl⟩, rfl, hm10, hk10⟩
            have hk := Lib.hid (kp_below HBL0.out HOUT0.out (HK9.out.trans hk10))
            have k10m := (HSS.out _ (HK9.out.trans hk10)).1
            obtain ⟨A10, c10, k10b, hpl10⟩ := hm10.pln
            have HPL10 := Lib.hid hpl10
            have HMR := Lib.hid (MakeR.copy (m := m) (a := a) (by rw [HBB.out]; exact HFR1.out) HRE2.out HLT.out)
            clear hm10 hk10 hpl10
            go_wp2
            go_ret2
            exact ⟨hk.out, .inr ⟨HPO.out, _, A10, c10, HMR.out, rfl, HPL10.out⟩⟩
          · have d5 : decide ((r : Int) < (σ2.n : Int)) = false := decide_eq_false (by omega)
            have d6 : ((r : Int) == 0) = true := by rw [h2]; rfl
            have HLT : Hid ((r : Int) < (σ2.n : Int) ∨ r = 0) := Lib.hid (.inr h2)
            clear h2
            have e64k : ElemOf Try.prog 23 2 .i64 8 := e64m
            have HE64 := Lib.hid e64k
            clear e64k
            go_wp2_with (at_make; refine Z.wpl_make rfl _ _ _ rfl HE64.out .i64 .i64 _ _ (r + 1) rfl rfl (by omega) (by omega) (by omega) (by unfold maxLen; omega) ?_; intro w8 hr8 hb8 hs8; have k8 := hr8.cell (show r < r + 1 by omega); have k8f := hr8.frozen r; have HB9 := Lib.hid (hb8.setCell (p := ⟨w7.heap.size, r, none⟩) (Nat.le_refl _) (.int .i64 1)); have HR9 := Lib.hid (Z.rowIs_set_ku hr8 r 1); have k9m : (w8.setCell ⟨w7.heap.size, r, none⟩ (.int .i64 1)).cell? ⟨w2.heap.size + 1, 0, none⟩ = some (.pointer (some ⟨w2.heap.size, 0, none⟩)) := (HSS.out _ (HK7.out.trans (Kp.of_below HB9.out HM7.out.lt.1))).1; clear hr8 hb8 hs8)
            have HK9 := Lib.hid (HK7.out.trans (Kp.of_below HB9.out HM7.out.lt.1))
            have hz9 := HR9.out.lt
            have hst : Calls Try.prog 44 #[.pointer (some ⟨w2.heap.size, 0, none⟩), .agg #[.bool false, .int .i64 0, .int .i64 0, .int .i64 0, .slice (some ⟨w7.heap.size, 0, none⟩) (r + 1) (r + 1)]] (w8.setCell ⟨w7.heap.size, r, none⟩ (.int .i64 1)) (RetMk (w8.setCell ⟨w7.heap.size, r, none⟩ (.int .i64 1)) t w2.heap.size w.heap.size fun σ' r' => σ' = σ2.push (copyS r) ∧ r' = (σ2.n : Int) + 1) :=
              mstep_any t w2.heap.size w.heap.size σ2 (copyS r) (some ⟨w7.heap.size, 0, none⟩) (r + 1) _ (HM7.out.below HB9.out) (csAt_row (S := copyS r) HR9.out rfl (by omega) (fun j hj => if_neg (by omega)) (HM7.out.new HB9.out (Nat.le_refl _) hz9)) (by omega)
            have HST := Lib.hid hst
            clear hst
            refine HST.out.mono ?_
            rintro e w10 ⟨σ5, r5, ⟨rfl, rfl⟩, rfl, hm10, hk10⟩
            have hk := Lib.hid (kp_below HBL0.out HOUT0.out (HK9.out.trans hk10))
            have k10m := (HSS.out _ (HK9.out.trans hk10)).1
            obtain ⟨A10, c10, k10b, hpl10⟩ := hm10.pln
            have HPL10 := Lib.hid hpl10
            have HMR := Lib.hid (MakeR.copy (m := m) (a := a) (by rw [HBB.out]; exact HFR1.out) HRE2.out HLT.out)
            clear hm10 hk10 hpl10
            go_wp2
            go_ret2
            exact ⟨hk.out, .inr ⟨HPO.out, _, A10, c10, HMR.out, rfl, HPL10.out⟩⟩
          · have d5 : decide ((r : Int) < (σ2.n : Int)) = false := decide_eq_false (by omega)
            have d6 : ((r : Int) == 0) = false := by rw [beq_eq_false_iff_ne]; omega
            have hk := Lib.hid (kp_below HBL0.out HOUT0.out HK7.out)
            have HMR := Lib.hid (MakeR.last (m := m) (a := a) (by rw [HBB.out]; exact HFR1.out) HRE2.out (by omega) h2)
            go_wp2
            go_ret2
            exact ⟨hk.out, .inr ⟨HPO.out, σ2, A7, c7, HMR.out, rfl, HPL7.out⟩⟩
      · have d1 : decide ((m : Int) > 0) = true := decide_eq_true (by omega)
        have d2 : decide (0 < m) = true := decide_eq_true (by omega)
        obtain ⟨g, off, rfl, _, hg, hcell⟩ := HA.out.2 (by omega)
        have k1 := hcell (m - 1) (by omega)
        rw [ham] at k1
        have HE : Hid (polyE t m a = 2) := Lib.hid (by
          unfold polyE
          rw [if_pos HMB.out, if_neg HNB.out, if_neg]
          intro h
          exact h.2 hm0 ham)
        have i0 : 0 ≤ (m : Int) - 1 := by omega
        have i1 : (m : Int) - 1 < (m : Int) := by omega
        have i2 : ((m : Int) - 1).toNat = m - 1 := by omega
        clear hcell ham
        go_wp2
        go_ret2
        exact ⟨Below.refl _ _, .inl ⟨by rw [HE.out]; decide, by rw [HE.out]; rfl⟩⟩
      · have d1 : decide ((m : Int) > 0) = true := decide_eq_true (by omega)
        have d2 : decide (0 < m) = true := decide_eq_true (by omega)
        obtain ⟨g, off, rfl, _, hg, hcell⟩ := HA.out.2 (by omega)
        have k1 := hcell (m - 1) (by omega)
        have dk : (a (m - 1) == 0) = false := by rw [beq_eq_false_iff_ne]; exact ham
        have HPO : Hid (polyE t m a = 0) := Lib.hid (by
          unfold polyE
          rw [if_pos HMB.out, if_neg HNB.out, if_pos]
          exact ⟨HAL.out, fun _ => ham⟩)
        have i0 : 0 ≤ (m : Int) - 1 := by omega
        have i1 : (m : Int) - 1 < (m : Int) := by omega
        have i2 : ((m : Int) - 1).toNat = m - 1 := by omega
        clear hcell ham
        obtain ⟨w2, hrun2, hg2, N2, hi2, hN2⟩ := imap_run (IMap.made w 3) 57 Try.underlying57 Try.underlying3 (by omega) 1 0 (by omega) (by omega) (by omega)
        have hrun2' : (Instr.mapUpdate 57 (.map (some w.heap.size)) (.int .i64 1) (.int .i64 0)).run Try.prog (w.alloc (.map #[] 0)) = .ok () w2 := hrun2
        have HG2 := Lib.hid hg2
        have HI2 := Lib.hid hi2
        clear hrun2 hg2 hi2
        obtain ⟨L, hL⟩ : ∃ L, Lib.bitLen (m - 2) = L := ⟨_, rfl⟩
        have hLc : ((m - 2 : Nat) : Int) = max 1 ((m : Int) - 1) - 1 := by omega
        have HBL : Hid (∀ W : World, Calls Try.prog 40 #[.int .u64 (max 1 ((m : Int) - 1) - 1)] W (RetP W (.int .i64 (L : Int)))) := Lib.hid fun W => hLc ▸ hL ▸ bitsLen_any (m - 2) W (by omega)
        have hL9 : L ≤ 64 := by rw [← hL]; exact bitLenAux_le 64 _
        obtain ⟨q, hq⟩ : ∃ q, (L + 1) / 2 = q := ⟨_, rfl⟩
        have q1 : ((L : Int) + 1) / 2 = (q : Int) := by omega
        have q3 : ((L : Int) + 1).tdiv 2 = (q : Int) := by rw [Int.tdiv_eq_ediv_of_nonneg (by omega)]; omega
        have q4 : q ≤ 32 := by omega
        have HQ := Lib.hid (And.intro hL hq)
        clear hL hLc hq
        go_wp2_with (go_at_call 40; refine (HBL.out _).mono ?_; rintro e w' ⟨rfl, hw⟩; subst hw)
        have hbb := babyOf_bound (m := m) (by omega)
        obtain ⟨bb, hbbe⟩ : ∃ bb, babyOf m = bb := ⟨_, rfl⟩
        rw [hbbe] at hbb
        have HWQ : Hid (wrap64 ((2 : Int) ^ q) = (bb : Int)) := Lib.hid (by
          have e : (2 : Int) ^ q = (bb : Int) := by
            rw [← hbbe]
            unfold babyOf
            rw [HQ.out.1, HQ.out.2]
            simp
          rw [e]
          exact IntWalk.wrap64_in _ (by omega))
        have HBB := Lib.hid hbbe
        clear hbbe
        rw [HWQ.out]
        clear HBL hrun2'
        obtain ⟨w5, hw5⟩ : ∃ w5, w5 = ((((w2.alloc (.cells #[.int .u32 (t : Int), .slice none 0 0, .map (some w.heap.size)] 59)).alloc (.cells #[.pointer (some ⟨w2.heap.size, 0, none⟩)] 56)).alloc (.cells #[.int .i64 (bb : Int)] 3)).alloc (.cells #[.func (.func 41) #[] #[.pointer (some ⟨w2.heap.size + 1 + 1, 0, none⟩), .pointer (some ⟨w2.heap.size + 1, 0, none⟩), .pointer (some ⟨w2.heap.size + 1 + 1 + 1, 0, none⟩)]] 62)) := ⟨_, rfl⟩
        rw [← hw5]
        have hst := make_start (t := t) (bb := bb) HG2.out HI2.out (by omega) HA.out rfl rfl rfl
        rw [← hw5] at hst
        obtain ⟨hmk5, hfe5, hsq5, hb5, ho5⟩ := hst
        have HMK5 := Lib.hid hmk5
        have HFE5 := Lib.hid hfe5
        have HSQ5 := Lib.hid hsq5
        have HBL0 := Lib.hid hb5
        have HOUT0 := Lib.hid ho5
        clear hw5 hmk5 hfe5 hsq5 hb5 ho5
        have hmm2 : m * m ≤ 65536 := Nat.mul_le_mul (show m ≤ 256 by omega) (show m ≤ 256 by omega)
        have HCB : Hid (∀ j, -2147483648 ≤ a j ∧ a j ≤ 2147483648) := Lib.hid fun j => by
          by_cases hj : j < m
          · have := balB_b htm (HAL.out j hj); omega
          · rw [HA.out.1 j (by omega)]; omega
        have hkd : Kp w2.heap.size w.heap.size w5 w5.drew := Kp.of_below (below_drewN (Below.refl _ _) 1) HMK5.out.lt.1
        have hmkd : MK w5.drew t w2.heap.size w.heap.size sta0 := HMK5.out.below (below_drewN (Below.refl _ _) 1)
        have HKD := Lib.hid hkd
        have HFO := Lib.hid (mform_any t w2.heap.size w.heap.size (w2.heap.size + 1 + 1) (w2.heap.size + 1) (w2.heap.size + 1 + 1 + 1) bb (by omega) (by omega) m sta0 a (some ⟨g, off, none⟩) cap w5.drew hmkd (HFE5.out.kp hkd) (HSQ5.out.kp hkd) hmc hcap (by omega) sta0_ok (by show 0 + 2 * (m * m) ≤ _; omega) (by show 1 + 2 * (m * m) ≤ _; omega) HCB.out)
        have HSS : Hid (∀ W, Kp w2.heap.size w.heap.size w5 W → W.cell? ⟨w2.heap.size + 1, 0, none⟩ = some (.pointer (some ⟨w2.heap.size, 0, none⟩)) ∧ W.cell? ⟨w2.heap.size + 1 + 1 + 1, 0, none⟩ = some (.func (.func 41) #[] #[.pointer (some ⟨w2.heap.size + 1 + 1, 0, none⟩), .pointer (some ⟨w2.heap.size + 1, 0, none⟩), .pointer (some ⟨w2.heap.size + 1 + 1 + 1, 0, none⟩)])) := Lib.hid fun W hk => ⟨(HFE5.out.kp hk).cm, (HFE5.out.kp hk).cf⟩
        clear hkd hmkd hmm k1 dk
        go_region_held3 (fun w' => w'.cell? ⟨w2.heap.size + 1, 0, none⟩ = some (.pointer (some ⟨w2.heap.size, 0, none⟩)) ∧ w'.cell? ⟨w2.heap.size + 1 + 1 + 1, 0, none⟩ = some (.func (.func 41) #[] #[.pointer (some ⟨w2.heap.size + 1 + 1, 0, none⟩), .pointer (some ⟨w2.heap.size + 1, 0, none⟩), .pointer (some ⟨w2.heap.size + 1 + 1 + 1, 0, none⟩)]))
          (first
            | exact HSS.out _ (Kp.refl _ _ _)
            | exact HSS.out _ HKD.out
            | exact HSS.out _ HK6.out
            | exact HSS.out _ HK7.out
            | fail)
          (first
            | (go_at_call 41
               ((with_reducible refine HFO.out.mono ?_); rintro e w6 ⟨σ1, a1, f1, P1, N1, hfr1, rfl, hm6, hk6, hi6, hN6, hP6, ho6⟩)
               have hfc1 := hfr1.facts (by omega) (by omega) sta0_ok
               have HFR1 := Lib.hid hfr1
               have HOK1 := Lib.hid hfc1.1
               have HFN1 := Lib.hid hfc1.2.2.2.2
               have hn1b : σ1.n ≤ 0 + 2 * (m * m) := hfc1.2.2.1
               have HK6 := Lib.hid (HKD.out.trans hk6)
               have HRE := Lib.hid (mregister_any t w2.heap.size w.heap.size P1 N1 a1 f1 σ1 w6 hm6 hi6 ho6 hfc1.2.2.2.2 (by omega) (by omega))
               clear hfr1 hm6 hk6 hi6 hP6 ho6 hfc1 hN6)
            | (go_at_call 43
               ((with_reducible refine HRE.out.mono ?_); rintro e w7 ⟨σ2, r2, hre, rfl, hm7, hk7⟩)
               have hfc2 := hre.ok HOK1.out HFN1.out
               obtain ⟨r, rfl, hr⟩ : ∃ r : Nat, r2 = (r : Int) ∧ r ≤ σ2.n := ⟨r2.toNat, by omega, by omega⟩
               have HRE2 := Lib.hid hre
               have hn2 := hfc2.2.2.2.1
               have HK7 := Lib.hid (HK6.out.trans hk7)
               have HM7 := Lib.hid hm7
               clear hre hm7 hk7 hfc2)
            | fail)
        all_goals
          obtain ⟨A7, c7, k7b, hpl7⟩ := HM7.out.pln
          have k7m := (HSS.out _ HK7.out).1
          have HPL7 := Lib.hid hpl7
          clear hpl7
          have hcase : r < σ2.n ∨ (σ2.n ≤ r ∧ r = 0) ∨ (σ2.n ≤ r ∧ r ≠ 0) := by omega
          rcases hcase with h1 | ⟨h1, h2⟩ | ⟨h1, h2⟩
          · have d5 : decide ((r : Int) < (σ2.n : Int)) = true := decide_eq_true (by omega)
            have HLT : Hid ((r : Int) < (σ2.n : Int) ∨ r = 0) := Lib.hid (.inl (by omega))
            have e64k : ElemOf Try.prog 23 2 .i64 8 := e64m
            have HE64 := Lib.hid e64k
            clear e64k
            go_wp2_with (at_make; refine Z.wpl_make rfl _ _ _ rfl HE64.out .i64 .i64 _ _ (r + 1) rfl rfl (by omega) (by omega) (by omega) (by unfold maxLen; omega) ?_; intro w8 hr8 hb8 hs8; have k8 := hr8.cell (show r < r + 1 by omega); have k8f := hr8.frozen r; have HB9 := Lib.hid (hb8.setCell (p := ⟨w7.heap.size, r, none⟩) (Nat.le_refl _) (.int .i64 1)); have HR9 := Lib.hid (Z.rowIs_set_ku hr8 r 1); have k9m : (w8.setCell ⟨w7.heap.size, r, none⟩ (.int .i64 1)).cell? ⟨w2.heap.size + 1, 0, none⟩ = some (.pointer (some ⟨w2.heap.size, 0, none⟩)) := (HSS.out _ (HK7.out.trans (Kp.of_below HB9.out HM7.out.lt.1))).1; clear hr8 hb8 hs8)
            have HK9 := Lib.hid (HK7.out.trans (Kp.of_below HB9.out HM7.out.lt.1))
            have hz9 := HR9.out.lt
            have hst : Calls Try.prog 44 #[.pointer (some ⟨w2.heap.size, 0, none⟩), .agg #[.bool false, .int .i64 0, .int .i64 0, .int .i64 0, .slice (some ⟨w7.heap.size, 0, none⟩) (r + 1) (r + 1)]] (w8.setCell ⟨w7.heap.size, r, none⟩ (.int .i64 1)) (RetMk (w8.setCell ⟨w7.heap.size, r, none⟩ (.int .i64 1)) t w2.heap.size w.heap.size fun σ' r' => σ' = σ2.push (copyS r) ∧ r' = (σ2.n : Int) + 1) :=
              mstep_any t w2.heap.size w.heap.size σ2 (copyS r) (some ⟨w7.heap.size, 0, none⟩) (r + 1) _ (HM7.out.below HB9.out) (csAt_row (S := copyS r) HR9.out rfl (by omega) (fun j hj => if_neg (by omega)) (HM7.out.new HB9.out (Nat.le_refl _) hz9)) (by omega)
            have HST := Lib.hid hst
            clear hst
            refine HST.out.mono ?_
            rintro e w10 ⟨σ5, r5, ⟨rfl, rfl⟩, rfl, hm10, hk10⟩
            have hk := Lib.hid (kp_below HBL0.out HOUT0.out (HK9.out.trans hk10))
            have k10m := (HSS.out _ (HK9.out.trans hk10)).1
            obtain ⟨A10, c10, k10b, hpl10⟩ := hm10.pln
            have HPL10 := Lib.hid hpl10
            have HMR := Lib.hid (MakeR.copy (m := m) (a := a) (by rw [HBB.out]; exact HFR1.out) HRE2.out HLT.out)
            clear hm10 hk10 hpl10
            go_wp2
            go_ret2
            exact ⟨hk.out, .inr ⟨HPO.out, _, A10, c10, HMR.out, rfl, HPL10.out⟩⟩
          · have d5 : decide ((r : Int) < (σ2.n : Int)) = false := decide_eq_false (by omega)
            have d6 : ((r : Int) == 0) = true := by rw [h2]; rfl
            have HLT : Hid ((r : Int) < (σ2.n : Int) ∨ r = 0) := Lib.hid (.inr h2)
            clear h2
            have e64k : ElemOf Try.prog 23 2 .i64 8 := e64m
            have HE64 := Lib.hid e64k
            clear e64k
            go_wp2_with (at_make; refine Z.wpl_make rfl _ _ _ rfl HE64.out .i64 .i64 _ _ (r + 1) rfl rfl (by omega) (by omega) (by omega) (by unfold maxLen; omega) ?_; intro w8 hr8 hb8 hs8; have k8 := hr8.cell (show r < r + 1 by omega); have k8f := hr8.frozen r; have HB9 := Lib.hid (hb8.setCell (p := ⟨w7.heap.size, r, none⟩) (Nat.le_refl _) (.int .i64 1)); have HR9 := Lib.hid (Z.rowIs_set_ku hr8 r 1); have k9m : (w8.setCell ⟨w7.heap.size, r, none⟩ (.int .i64 1)).cell? ⟨w2.heap.size + 1, 0, none⟩ = some (.pointer (some ⟨w2.heap.size, 0, none⟩)) := (HSS.out _ (HK7.out.trans (Kp.of_below HB9.out HM7.out.lt.1))).1; clear hr8 hb8 hs8)
            have HK9 := Lib.hid (HK7.out.trans (Kp.of_below HB9.out HM7.out.lt.1))
            have hz9 := HR9.out.lt
            have hst : Calls Try.prog 44 #[.pointer (some ⟨w2.heap.size, 0, none⟩), .agg #[.bool false, .int .i64 0, .int .i64 0, .int .i64 0, .slice (some ⟨w7.heap.size, 0, none⟩) (r + 1) (r + 1)]] (w8.setCell ⟨w7.heap.size, r, none⟩ (.int .i64 1)) (RetMk (w8.setCell ⟨w7.heap.size, r, none⟩ (.int .i64 1)) t w2.heap.size w.heap.size fun σ' r' => σ' = σ2.push (copyS r) ∧ r' = (σ2.n : Int) + 1) :=
              mstep_any t w2.heap.size w.heap.size σ2 (copyS r) (some ⟨w7.heap.size, 0, none⟩) (r + 1) _ (HM7.out.below HB9.out) (csAt_row (S := copyS r) HR9.out rfl (by omega) (fun j hj => if_neg (by omega)) (HM7.out.new HB9.out (Nat.le_refl _) hz9)) (by omega)
            have HST := Lib.hid hst
            clear hst
            refine HST.out.mono ?_
            rintro e w10 ⟨σ5, r5, ⟨rfl, rfl⟩, rfl, hm10, hk10⟩
            have hk := Lib.hid (kp_below HBL0.out HOUT0.out (HK9.out.trans hk10))
            have k10m := (HSS.out _ (HK9.out.trans hk10)).1
            obtain ⟨A10, c10, k10b, hpl10⟩ := hm10.pln
            have HPL10 := Lib.hid hpl10
            have HMR := Lib.hid (MakeR.copy (m := m) (a := a) (by rw [HBB.out]; exact HFR1.out) HRE2.out HLT.out)
            clear hm10 hk10 hpl10
            go_wp2
            go_ret2
            exact ⟨hk.out, .inr ⟨HPO.out, _, A10, c10, HMR.out, rfl, HPL10.out⟩⟩
          · have d5 : decide ((r : Int) < (σ2.n : Int)) = false := decide_eq_false (by omega)
            have d6 : ((r : Int) == 0) = false := by rw [beq_eq_false_iff_ne]; omega
            have hk := Lib.hid (kp_below HBL0.out HOUT0.out HK7.out)
            have HMR := Lib.hid (MakeR.last (m := m) (a := a) (by rw [HBB.out]; exact HFR1.out) HRE2.out (by omega) h2)
            go_wp2
            go_ret2
            exact ⟨hk.out, .inr ⟨HPO.out, σ2, A7, c7, HMR.out, rfl, HPL7.out⟩⟩
end Go.Proofs.Ytmidpholmgmdpaa
