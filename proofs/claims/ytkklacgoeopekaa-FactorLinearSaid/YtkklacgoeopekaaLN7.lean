/- The law FactorLinear of layer 7. -/
import Derived.Test.YtkklacgoeopekaaLW7
import Derived.Test.YtkklacgoeopekaaPi7
import Derived.Test.YtkklacgoeopekaaFn7
import Derived.Deep.RegionHeld3
namespace Go.Proofs.Ytkklacgoeopekaa
open Go.RowKit
set_option linter.unusedVariables false

theorem whole_pair {p k : Nat} (hp : 2 ≤ p) : Res p (k + 1, wholeF k) := ⟨fun j => by
  show wholeF k j < p
  unfold wholeF
  split
  · omega
  · split <;> omega, fun j hj => by
  have hj' : k + 1 ≤ j := hj
  show wholeF k j = 0
  unfold wholeF
  rw [if_neg (by omega), if_neg (by omega)], tl_unique (Nat.le_refl _) (fun j h1 h2 => by have h1' : k + 1 ≤ j := h1; have h2' : j < k + 1 := h2; omega) fun _ => by
  show wholeF k (k + 1 - 1) ≠ 0
  unfold wholeF
  rw [if_pos (by omega)]
  exact Nat.one_ne_zero⟩
theorem whole_val {p k z : Nat} (hk : 1 ≤ k) : valF p (k + 1) (wholeF k) z = (1 + z ^ k) % p := by
  unfold valF
  congr 1
  show sumN _ k + wholeF k k * z ^ k = _
  rw [sumN_at (s := 0) _ (by omega) fun i hi hne => by unfold wholeF; rw [if_neg (by omega), if_neg hne, Nat.zero_mul]]
  unfold wholeF
  rw [if_neg (by omega), if_pos rfl, if_pos rfl, Nat.one_mul, Nat.one_mul, Nat.pow_zero]
theorem neg_one_add {p a : Nat} (hp : 2 ≤ p) (h : a % p = p - 1) : (1 + a) % p = 0 := by
  rw [Nat.add_mod, h, Nat.mod_eq_of_lt (by omega : 1 < p), show 1 + (p - 1) = p by omega, Nat.mod_self]
/-- the cyclotomic polynomial falls into linear factors -/
theorem lin_whole {p k x ψ : Nat} (hp : Mr.Pr p) (h3 : 3 ≤ p) (hp2 : p ≤ 65535) (hk : 2 ≤ k) (hk2 : k ≤ 32) (hxp : x % p = ψ) (hrt : Rt p k ψ) (hx : Cg p (1 + (x : Int) ^ k) 0) :
    ∃ L, SplT p 1 (wholeL k) L ∧ L.length = k ∧ (∀ i, i < k → [(p - x ^ (2 * i + 1) % p) % p, 1] ∈ L) ∧ ∀ l, l ∈ L → l.length = 2 := by
  have hw := whole_pair (p := p) (k := k) hp.1
  have hl : (wholeL k).length = k + 1 := toL_len _ _
  have hF : litF (wholeL k) = wholeF k := litF_toL hw.2.1
  obtain ⟨Z, hZ⟩ : ∃ Z, (List.range k).map (fun i => x ^ (2 * i + 1) % p) = Z := ⟨_, rfl⟩
  have hZl : Z.length = k := by rw [← hZ]; simp
  have hmem : ∀ z, z ∈ Z → ∃ i, i < k ∧ x ^ (2 * i + 1) % p = z := fun z hz => by
    rw [← hZ] at hz
    obtain ⟨i, hi, e⟩ := List.mem_map.1 hz
    exact ⟨i, List.mem_range.1 hi, e⟩
  have hin : ∀ i, i < k → x ^ (2 * i + 1) % p ∈ Z := fun i hi => by
    rw [← hZ]
    exact List.mem_map.2 ⟨i, List.mem_range.2 hi, rfl⟩
  have hlin : LinP p (wholeL k) Z := {
    lr := LR.of (P := (k + 1, wholeF k)) hw
    len := by rw [hl, hZl]
    one := by
      rw [hF, hZl]
      unfold wholeF
      rw [if_pos rfl]
    nd := by
      rw [← hZ]
      show List.Pairwise _ _
      rw [List.pairwise_map]
      refine List.Pairwise.imp_of_mem ?_ (List.pairwise_lt_range (n := k))
      intro a b ha hb hab he
      have hb2 := List.mem_range.1 hb
      rw [Nat.pow_mod x, hxp, Nat.pow_mod x (2 * b + 1), hxp] at he
      exact Ordr.inj hp hrt.ord (by omega) (by omega) he
    lt := fun z hz => by
      obtain ⟨i, _, rfl⟩ := hmem z hz
      exact Nat.mod_lt _ hp.pos
    rt := fun z hz => by
      obtain ⟨i, _, rfl⟩ := hmem z hz
      have e1 : LV p (wholeL k) (x ^ (2 * i + 1) % p) = valF p (k + 1) (wholeF k) (x ^ (2 * i + 1) % p) := LV.of (P := (k + 1, wholeF k)) hw _
      rw [e1, whole_val (by omega)]
      exact neg_one_add hp.1 (odd_root (M := p) (by omega) hx i) }
  obtain ⟨L, t1, t2, t3, t4⟩ := lin_tree hp h3 hp2 k (wholeL k) Z hZl (by omega) (by omega) hlin
  exact ⟨L, t1, by omega, fun i hi => t3 _ (hin i hi), t4⟩
theorem mem_at {M : List (List Nat)} {t : List Nat} (h : t ∈ M) : ∃ j, j < M.length ∧ M.getD j [] = t := by
  obtain ⟨j, hj, e⟩ := List.getElem_of_mem h
  exact ⟨j, hj, by rw [List.getD_eq_getElem?_getD, List.getElem?_eq_getElem hj]; exact e⟩
theorem same_lin (A : Option Addr) (c t : Nat) (l : List Nat) (w : World) (hl : l.length ≤ 1000) (h : LS w 0 w.heap.size A l) (W : World) (hW : W = w.alloc (.cells #[.int .u32 (t : Int), .int .u32 1] 22)) :
    Calls Try.prog 15 #[.slice A l.length c, .slice (some ⟨w.heap.size, 0, none⟩) 2 2] W (fun e w' => ∃ b, e = .returned (.bool b) ∧ (b = false → l ≠ [t, 1]) ∧ Below w.heap.size w w') := by
  subst hW
  have hb1 := (Below.refl w.heap.size w).alloc (Nat.le_refl _) (.cells #[.int .u32 (t : Int), .int .u32 1] 22)
  have hs := same7_any l.length 2 c 2 A (some ⟨w.heap.size, 0, none⟩) (litF l) (litF [t, 1]) _ 0 _ 0 (w.heap.size + 1) (h.below hb1 (Nat.le_refl _)) (sq_list .u32 w 22 0 (w.heap.size + 1) [t, 1] (Nat.zero_le _) (Nat.lt_succ_self _)) (by omega) (by omega) (by simp) (by simp)
  refine hs.mono fun e w' h => ⟨_, h.1, fun hb he => ?_, hb1.trans (h.2.mono (by simp))⟩
  subst he
  rw [show ([t, 1] : List Nat).length = 2 from rfl, sameB_refl] at hb
  exact Bool.noConfusion hb

set_option maxRecDepth 100000 in
set_option maxHeartbeats 40000000 in
theorem factorLinear_any (n : Int) (p : Nat) (w : World) (hp : p ≤ 4294967295) : Calls Try.prog 3 #[.int .i64 n, .int .u32 p] w (RetV w (.bool true)) := by
  have H1 := Lib.hid (froot_any n p 1 w hp (by omega))
  go_enter Try.func3, Try.ntmps3
  go_wp2_with fail
  refine H1.out.mono ?_
  rintro e w1 ⟨hb1, hh⟩
  have HB1 := Lib.hid hb1
  clear hb1 H1
  rcases hh with ⟨_, rfl⟩ | ⟨_, _, rfl⟩ | ⟨hok, x, hx, rfl⟩
  · go_wp2_with fail
    refine (awake7_any w1).mono ?_
    rintro e w2 ⟨rfl, hb2⟩
    go_wp2_with fail
    go_ret
    exact ⟨rfl, HB1.out.trans (hb2.mono HB1.out.size)⟩
  · go_wp2_with fail
    refine (awake7_any w1).mono ?_
    rintro e w2 ⟨rfl, hb2⟩
    go_wp2_with fail
    go_ret
    exact ⟨rfl, HB1.out.trans (hb2.mono HB1.out.size)⟩
  obtain ⟨k, rfl, hk2, hk32⟩ := dimF_nat hok.1.1
  have hpl := hok.2.1
  have hpr := hpl.2.2.1
  have hp3 := hpl.1
  have hp6 := hpl.2.1
  have hmod := hok.2.2
  rw [Int.toNat_natCast] at hx hmod
  obtain ⟨ψ, hl, hrt, hψp, hx1, hx2, hx3⟩ := hx
  rw [pv_cyc (by omega)] at hx3
  rw [show (1 : Int).toNat = 1 from rfl, Nat.pow_one] at hx1 hx3
  obtain ⟨L, t1, t2, t3, t4⟩ := lin_whole hpr hp3 hp6 hk2 hk32 hx2 hrt hx3
  have hdg : Dg k p 1 := ⟨Nat.le_refl _, by rw [Nat.pow_one]; exact hmod, fun e h1 h2 => by omega⟩
  have hln : ∀ j, lnL L j ≤ 1000 := fun j => by
    unfold lnL
    rcases Nat.lt_or_ge j L.length with h | h
    · rw [List.getD_eq_getElem?_getD, List.getElem?_eq_getElem h]
      show L[j].length ≤ 1000
      rw [t4 _ (List.getElem_mem h)]
      omega
    · rw [lnL_out h]; exact Nat.zero_le _
  have HFA := Lib.hid (cfactors_any k p 1 L w1 (by omega) hok.1 hdg (prB_yes hpr) (by omega) t1 (by omega) hln (by omega))
  have HDM := Lib.hid (fun W : World => rdim_any (k : Int) W)
  rw [show dimB (k : Int) = true from dimB_yes.2 hok.1.1] at HDM
  have HPP := Lib.hid (fun W : World => rpp7_any p W hp)
  rw [show pp7 p = true from pp7_yes.2 ⟨hp3, hp6, hpr⟩] at HPP
  have HNX := Lib.hid (fun i => z_next p x i)
  have HML : Hid (∀ y, y % p < p) := Lib.hid fun y => Nat.mod_lt _ (by omega)
  have HX1 : Hid (x ^ (2 * 0 + 1) % p = x) := Lib.hid (by rw [Nat.mul_zero, Nat.zero_add, Nat.pow_one, Nat.mod_eq_of_lt hx1])
  have HT2 := Lib.hid t2
  have HT3 := Lib.hid t3
  have HT4 := Lib.hid t4
  have hp0 : ¬ p = 0 := by omega
  clear hok hpl hl hrt hx2 hx3 hmod hpr t1 t2 t3 t4 hdg hln
  go_wp2_with fail
  refine HFA.out.mono ?_
  rintro e w2 ⟨g, c, M, H, cc, rfl, hg, hpm, _, hce, hel, hb2⟩
  have HB2 := Lib.hid (HB1.out.trans (hb2.mono HB1.out.size))
  have hml : M.length = k := by rw [hpm.length_eq, HT2.out]
  rw [hml] at hce hel ⊢
  have HPM := Lib.hid hpm
  have HCE := Lib.hid hce
  have HEL := Lib.hid hel
  have HML2 := Lib.hid hml
  have HLN : Hid (∀ j, (M.getD j []).length ≤ 1000) := Lib.hid fun j => by
    rcases Nat.lt_or_ge j M.length with h | h
    · rw [List.getD_eq_getElem?_getD, List.getElem?_eq_getElem h]
      show M[j].length ≤ 1000
      rw [HT4.out _ (hpm.subset (List.getElem_mem h))]
      omega
    · rw [lnL_out h]; exact Nat.zero_le _
  clear hb2 hpm hce hel hml HFA
  go_wp2_with (first | (go_at_call 13; refine (HDM.out _).mono ?_; rintro e w' ⟨rfl, hw⟩; subst hw) | (go_at_call 14; refine (HPP.out _).mono ?_; rintro e w' ⟨rfl, hw⟩; subst hw))
  go_loopw [9, 10] (fun Z I w' => ∃ i : Nat, I = .int .i64 (i : Int) ∧ i ≤ k ∧ Z = .int .u64 ((x ^ (2 * i + 1) % p : Nat) : Int) ∧ Below w2.heap.size w2 w') (fun _ I _ => k - (intOf I).toNat)
  case atStart => exact ⟨0, rfl, Nat.zero_le _, by rw [HX1.out], Below.refl _ _⟩
  case round =>
    obtain ⟨i, rfl, hi, rfl, hbl⟩ := hrel
    have HBL := Lib.hid hbl
    have hzr := hbl.size
    clear hbl
    by_cases hik : i < k
    · have f1 : decide ((i : Int) < (k : Int)) = true := decide_eq_true (by omega)
      have hzl := HML.out (x ^ (2 * i + 1))
      have HNXi := Lib.hid (HNX.out i)
      have HTi := Lib.hid (HT3.out i hik)
      obtain ⟨z, hz⟩ : ∃ z, x ^ (2 * i + 1) % p = z := ⟨_, rfl⟩
      rw [hz] at hzl HNXi HTi ⊢
      clear hz
      have htl := HML.out (p - z)
      obtain ⟨u, hu⟩ : ∃ u, p - z = u := ⟨_, rfl⟩
      rw [hu] at htl HTi
      have hui : (p : Int) - (z : Int) = (u : Int) := by omega
      obtain ⟨t, ht⟩ : ∃ t, u % p = t := ⟨_, rfl⟩
      rw [ht] at htl HTi
      have s2 : (u : Int) % (p : Int) = (t : Int) := by rw [← ht]; simp
      have s3 : (u : Int).tmod (p : Int) = (t : Int) := by rw [Int.tmod_eq_emod_of_nonneg (by omega), s2]
      have hub : u ≤ 65535 := by omega
      have s1 : IntKind.u64.wrap (u : Int) = (u : Int) := IntWalk.u64_in _ (by omega)
      have s4 : IntKind.u32.wrap (t : Int) = (t : Int) := IntWalk.u32_in _ (by omega)
      have s5 : IntKind.u64.wrap (p : Int) = (p : Int) := IntWalk.u64_in _ (by omega)
      have s6 : IntKind.u64.wrap (z : Int) = (z : Int) := IntWalk.u64_in _ (by omega)
      have s7 : ¬ (p : Int) = 0 := by omega
      clear hu
      clear ht
      go_wp2
      go_loopw [11, 12] (fun F Q w' => ∃ (q : Nat) (b : Bool), F = .bool b ∧ Q = .int .i64 (q : Int) ∧ q ≤ k ∧ (b = false → ∀ j, j < q → M.getD j [] ≠ [t, 1]) ∧ Below w2.heap.size w2 w') (fun _ Q _ => k - (intOf Q).toNat)
      case atStart => exact ⟨0, false, rfl, rfl, Nat.zero_le _, fun _ j hj => absurd hj (Nat.not_lt_zero j), HBL.out⟩
      case round =>
        clear HBL
        obtain ⟨q, b, rfl, rfl, hq, hno, hbq⟩ := hrel
        have HNO := Lib.hid hno
        have HBQ := Lib.hid hbq
        have hzq := hbq.size
        clear hno
        by_cases hqk : q < k
        · have f2 : decide ((q : Int) < (k : Int)) = true := decide_eq_true (by omega)
          have k1 := (hbq.cell (p := ⟨g, q, none⟩) hg).trans (HCE.out q hqk)
          have HLS := Lib.hid ((HEL.out q hqk).next hbq)
          have i0 : 0 ≤ (q : Int) := by omega
          have i1 : (q : Int) < (k : Int) := by omega
          clear hbq
          cases b with
          | true =>
            go_wp2
            go_quiet (fail)
            go_wp2
            go_roundw
            case rel => exact ⟨q + 1, true, rfl, by go_num, hqk, (fun h => Bool.noConfusion h), below_drewN HBQ.out _⟩
            case measure => simp only [intOf]; omega
          | false =>
            have HSS : Hid (∀ W, Below wr.heap.size wr W → W.cell? ⟨g, q, none⟩ = some (.slice (H q) (lnL M q) (cc q))) := Lib.hid fun W hb => (hb.cell (p := ⟨g, q, none⟩) (show g < wr.heap.size by omega)).trans k1
            have HSM : Hid (∀ W, W = wr.alloc (.cells #[.int .u32 (t : Int), .int .u32 1] 22) ∨ W = (wr.drewN 1).alloc (.cells #[.int .u32 (t : Int), .int .u32 1] 22) → Calls Try.prog 15 #[.slice (H q) (lnL M q) (cc q), .slice (some ⟨wr.heap.size, 0, none⟩) 2 2] W (fun e w' => ∃ b, e = .returned (.bool b) ∧ (b = false → M.getD q [] ≠ [t, 1]) ∧ Below wr.heap.size wr w')) := Lib.hid fun W hW => by
              rcases hW with hW | hW
              · exact same_lin (H q) (cc q) t (M.getD q []) wr (HLN.out q) HLS.out W hW
              · exact (same_lin (H q) (cc q) t (M.getD q []) (wr.drewN 1) (HLN.out q) HLS.out W hW).mono fun e w' ⟨b, h1, h2, h3⟩ => ⟨b, h1, h2, (below_drewN (Below.refl wr.heap.size wr) 1).trans h3⟩
            clear HLS
            go_wp2
            go_region_held3 (fun w' => w'.cell? ⟨g, q, none⟩ = some (.slice (H q) (lnL M q) (cc q)))
              (first
                | exact HSS.out _ (Below.refl _ _)
                | exact HSS.out _ (below_drewN (Below.refl _ _) 1)
                | exact HSS.out _ (((Below.refl _ wr).alloc (Nat.le_refl _) _).drew)
                | exact HSS.out _ hb5
                | fail)
              (first
                | (go_at_call 15
                   refine (HSM.out _ (by first | exact .inl rfl | exact .inr rfl)).mono ?_
                   rintro e w5 ⟨b5, rfl, hb5n, hb5⟩)
                | fail)
            all_goals
              go_wp2
              go_roundw
            case rel => exact ⟨q + 1, b5, rfl, by go_num, hqk, (fun hb j hj => by
              rcases Nat.lt_or_ge j q with h | h
              · exact HNO.out (by trivial) j h
              · obtain rfl : q = j := by omega
                exact hb5n (by first | exact hb | trivial)), HBQ.out.trans (hb5.mono hzq)⟩
            case measure => simp only [intOf]; omega
        · obtain rfl : k = q := by omega
          have f2 : decide ((k : Int) < (k : Int)) = false := decide_eq_false (by omega)
          cases b with
          | false =>
            exfalso
            obtain ⟨j, j1, j2⟩ := mem_at (HPM.out.symm.subset HTi.out)
            exact HNO.out (by trivial) j (by have := HML2.out; omega) j2
          | true =>
            clear hbq
            obtain ⟨zx, hzx⟩ : ∃ zx, z * x = zx := ⟨_, rfl⟩
            have hzxi : (z : Int) * (x : Int) = (zx : Int) := by rw [← hzx]; simp
            have hzxb : zx ≤ 65535 * 65535 := by rw [← hzx]; exact Nat.mul_le_mul (by omega) (by omega)
            obtain ⟨r, hr⟩ : ∃ r, zx % p = r := ⟨_, rfl⟩
            have hri : (zx : Int) % (p : Int) = (r : Int) := by rw [← hr]; simp
            have hrt : (zx : Int).tmod (p : Int) = (r : Int) := by rw [Int.tmod_eq_emod_of_nonneg (by omega), hri]
            have hrl : r < p := by rw [← hr]; exact HML.out zx
            obtain ⟨rx, hrx⟩ : ∃ rx, r * x = rx := ⟨_, rfl⟩
            have hrxi : (r : Int) * (x : Int) = (rx : Int) := by rw [← hrx]; simp
            have hrxb : rx ≤ 65535 * 65535 := by rw [← hrx]; exact Nat.mul_le_mul (by omega) (by omega)
            obtain ⟨v, hv⟩ : ∃ v, rx % p = v := ⟨_, rfl⟩
            have hvi : (rx : Int) % (p : Int) = (v : Int) := by rw [← hv]; simp
            have hvt : (rx : Int).tmod (p : Int) = (v : Int) := by rw [Int.tmod_eq_emod_of_nonneg (by omega), hvi]
            have HV : Hid (((v : Nat) : Int) = ((x ^ (2 * (i + 1) + 1) % p : Nat) : Int)) := Lib.hid (by rw [← HNXi.out, hzx, hr, hrx, hv])
            clear hzx hr hrx hv
            go_wp2
            go_roundw
            case rel => exact ⟨i + 1, by go_num, hik, by rw [HV.out], HBQ.out⟩
            case measure => simp only [intOf]; omega
    · obtain rfl : k = i := by omega
      have f1 : decide ((k : Int) < (k : Int)) = false := decide_eq_false (by omega)
      go_wp2_with fail
      refine (awake7_any wr).mono ?_
      rintro e w5 ⟨rfl, hb5⟩
      go_wp2_with fail
      go_ret
      exact ⟨rfl, HB2.out.trans ((HBL.out.trans (hb5.mono hzr)).mono HB2.out.size)⟩
end Go.Proofs.Ytkklacgoeopekaa
