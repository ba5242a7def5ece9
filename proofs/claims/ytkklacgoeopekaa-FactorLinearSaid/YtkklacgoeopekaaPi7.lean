/- The plain law of factor.Factors, part 4: some candidate parts any two roots; the tree of the splittings. No program in sight. -/
import Derived.Test.YtkklacgoeopekaaPh7
import Derived.Test.YtkklacgoeopekaaSp7
namespace Go.Proofs.Ytkklacgoeopekaa
open Go.RowKit
set_option linter.unusedVariables false

section
variable {p : Nat}
theorem inv_neg {δ : Nat} (hp : Mr.Pr p) (h : ¬ p ∣ δ) : ∃ m, (1 + m * δ) % p = 0 := by
  have h1 := Mr.flt hp h
  have hp2 := hp.1
  refine ⟨(p - 1) * δ ^ (p - 2), ?_⟩
  rw [Nat.mul_assoc, ← Nat.pow_succ, show (p - 2).succ = p - 1 by omega, Nat.add_mod, Nat.mul_mod, h1, ← Nat.mul_mod, Nat.mul_one, ← Nat.add_mod, show 1 + (p - 1) = p by omega, Nat.mod_self]
/-- a shift that parts two roots -/
theorem shift_parts {z1 z2 N : Nat} (hp : Mr.Pr p) (hN : 0 < N) (h1 : z1 < p) (h2 : z2 < p) (hne : z1 ≠ z2) : ∃ c, c < p ∧ ¬ ((z1 + c) ^ N % p = 1 ↔ (z2 + c) ^ N % p = 1) := by
  rcases Classical.em (∃ c, c < p ∧ ¬ ((z1 + c) ^ N % p = 1 ↔ (z2 + c) ^ N % p = 1)) with h | h
  · exact h
  exfalso
  have hp1 := hp.1
  have hall : ∀ c, c < p → ((z1 + c) ^ N % p = 1 ↔ (z2 + c) ^ N % p = 1) := fun c hc => Classical.byContradiction fun hn => h ⟨c, hc, hn⟩
  have hstep : ∀ y, y ^ N % p = 1 → (y + (z2 + p - z1)) ^ N % p = 1 := fun y hy => by
    obtain ⟨c, hc⟩ : ∃ c, (y + p - z1 % p) % p = c := ⟨_, rfl⟩
    have hcl : c < p := by rw [← hc]; exact Nat.mod_lt _ hp.pos
    have e0 := Nat.mod_eq_of_lt h1
    rw [e0] at hc
    have e1 : (z1 + c) % p = y % p := by
      rw [← hc, Nat.add_mod_mod, show z1 + (y + p - z1) = y + p by omega, Nat.add_mod_right]
    have e2 : (z2 + c) % p = (y + (z2 + p - z1)) % p := by
      rw [← hc, Nat.add_mod_mod]
      congr 1
      omega
    have := hall c hcl
    rw [Nat.pow_mod, e1, ← Nat.pow_mod, Nat.pow_mod (z2 + c), e2, ← Nat.pow_mod] at this
    exact this.1 hy
  have hmany : ∀ m, (1 + m * (z2 + p - z1)) ^ N % p = 1 := fun m => by
    induction m with
    | zero => rw [Nat.zero_mul, Nat.add_zero, Nat.one_pow, Nat.mod_eq_of_lt hp1]
    | succ m ih =>
      have := hstep _ ih
      rw [Nat.succ_mul, ← Nat.add_assoc]
      exact this
  obtain ⟨m, hm⟩ := inv_neg (δ := z2 + p - z1) hp (fun hd => by
    have h3 := Nat.mod_eq_zero_of_dvd hd
    rcases Nat.lt_or_ge z2 z1 with h4 | h4
    · rw [Nat.mod_eq_of_lt (by omega)] at h3; omega
    · rw [show z2 + p - z1 = z2 - z1 + p by omega, Nat.add_mod_right, Nat.mod_eq_of_lt (by omega)] at h3; omega)
  have h5 := hmany m
  rw [Nat.pow_mod, hm, Nat.zero_pow hN, Nat.zero_mod] at h5
  omega
/-- the candidates from p to 2 p - 1 -/
theorem cand_lin {n c : Nat} (hn : 2 ≤ n) (hp : 2 ≤ p) (hc : c < p) : candL p n (p + c) = [c, 1] := by
  have e : dgF p n (p + c) = litF [c, 1] := funext fun j => by
    unfold dgF litF
    rcases j with _ | _ | j
    · rw [if_pos (by omega), Nat.pow_zero, Nat.div_one, Nat.add_mod_left, Nat.mod_eq_of_lt hc]; rfl
    · rw [if_pos (by omega), Nat.pow_one, Nat.add_div_left _ (by omega), Nat.div_eq_of_lt hc, Nat.mod_eq_of_lt (by omega)]; rfl
    · have h0 : (p + c) / p ^ (j + 1 + 1) = 0 := Nat.div_eq_of_lt (by
        have h1 : p ^ 2 ≤ p ^ (j + 1 + 1) := Nat.pow_le_pow_right (by omega) (by omega)
        have h2 : p * 2 ≤ p * p := Nat.mul_le_mul_left p hp
        rw [Nat.pow_two] at h1
        omega)
      rw [h0, Nat.zero_mod]
      simp
  have et : tl (dgF p n (p + c)) n = 2 := tl_unique hn (fun j h1 h2 => by
    rw [e]
    rcases j with _ | _ | j
    · omega
    · omega
    · simp [litF]) (fun _ => by rw [e]; simp [litF])
  unfold candL
  rw [et, e]
  simp [toL, litF, List.range_succ]
theorem lr_lin {c : Nat} (hp : 2 ≤ p) (hc : c < p) : LR p [c, 1] := by
  refine ⟨fun j => ?_, fun j hj => ?_, ?_⟩
  · rcases j with _ | _ | j
    · exact hc
    · show 1 < p; omega
    · show 0 < p; omega
  · have hj' : 2 ≤ j := hj
    rcases j with _ | _ | j
    · omega
    · omega
    · rfl
  · exact tl_unique (Nat.le_refl _) (fun j h1 h2 => by have h1' : 2 ≤ j := h1; have h2' : j < 2 := h2; omega) fun _ => (by decide : (1 : Nat) ≠ 0)
theorem lv_lin {c z : Nat} : LV p [c, 1] z = (z + c) % p := by
  unfold LV valF
  show (0 + c * z ^ 0 + 1 * z ^ 1) % p = _
  rw [Nat.pow_zero, Nat.pow_one]
  congr 1
  omega
/-- the character of a linear candidate, at the roots -/
theorem chr_law {f Z : List Nat} {c : Nat} (hp : Mr.Pr p) (hp2 : p ≤ 65535) (hf : LinP p f Z) (hZ : Z.length ≤ 60) (hc : c < p) :
    chrB p 1 [c, 1] f = true ∧ LR p (chrL p 1 [c, 1] f) ∧ (chrL p 1 [c, 1] f).length < f.length ∧ ∀ z, z ∈ Z → LV p (chrL p 1 [c, 1] f) z = (z + c) ^ ((p - 1) / 2) % p := by
  have hlen := hf.len
  have hp3 : p ≤ 2147483647 := by omega
  obtain ⟨a, ha⟩ : ∃ a, [c, 1] = a := ⟨_, rfl⟩
  obtain ⟨o, ho⟩ : ∃ o, ([1] : List Nat) = o := ⟨_, rfl⟩
  have hal : a.length = 2 := by rw [← ha]; rfl
  have hol : o.length = 1 := by rw [← ho]; rfl
  have har : LR p a := by rw [← ha]; exact lr_lin hp.1 hc
  have hor : LR p o := by rw [← ho]; exact LR.one hp.1
  have hav : ∀ z, LV p a z = (z + c) % p := fun z => by rw [← ha]; exact lv_lin
  have hov : ∀ z, LV p o z = 1 := fun z => by rw [← ho]; exact LV.one hp.1 z
  obtain ⟨D, hD⟩ : ∃ D, dmR p a f = D := ⟨_, rfl⟩
  obtain ⟨M, hM⟩ : ∃ M, mlL p o D = M := ⟨_, rfl⟩
  obtain ⟨E, hE⟩ : ∃ E, dmR p M f = E := ⟨_, rfl⟩
  obtain ⟨X, hX⟩ : ∃ X, pwL p D p f = X := ⟨_, rfl⟩
  obtain ⟨Y, hY⟩ : ∃ Y, mlL p E X = Y := ⟨_, rfl⟩
  obtain ⟨R, hR⟩ : ∃ R, pwL p E ((p - 1) / 2) f = R := ⟨_, rfl⟩
  obtain ⟨d1, d2, d3, d4⟩ := dmR_law hp hp3 har hf.lr (by omega) (by omega) (by omega)
  rw [hD] at d1 d2 d3 d4
  obtain ⟨m1, m2, m3⟩ := mlL_law hp hp3 hor d1 (by omega)
  rw [hM] at m1 m2 m3
  obtain ⟨e1, e2, e3, e4⟩ := dmR_law hp hp3 m1 hf.lr (by omega) (by omega) (by omega)
  rw [hE] at e1 e2 e3 e4
  obtain ⟨x1, x2, _⟩ := pwL_law (N := p) hp hp3 d1 hf.lr (by omega) (by omega) (by omega) (by omega)
  rw [hX] at x1 x2
  obtain ⟨n1, n2, _⟩ := mlL_law hp hp3 e1 x1 (by omega)
  rw [hY] at n1 n2
  obtain ⟨r1, r2, r3⟩ := pwL_law (N := (p - 1) / 2) hp hp3 e1 hf.lr (by omega) (by omega) (by omega) (by omega)
  rw [hR] at r1 r2 r3
  have s0 : chrS p f D 0 = (o, D) := by rw [← ho]; rfl
  have s1 : chrS p f D 1 = (E, X) := by
    show (dmR p (mlL p (chrS p f D 0).1 (chrS p f D 0).2) f, pwL p (chrS p f D 0).2 p f) = _
    rw [s0]
    simp only
    rw [hM, hE, hX]
  have ec : chrL p 1 a f = R := by
    unfold chrL
    rw [hD, s1, hR]
  rw [ha, ec]
  refine ⟨?_, r1, r2, fun z hz => ?_⟩
  · unfold chrB
    rw [hD]
    simp only [Bool.and_eq_true, decide_eq_true_eq, List.all_eq_true, List.mem_range]
    refine ⟨⟨by omega, by omega⟩, fun i hi => ?_⟩
    rcases i with _ | _ | i
    · rw [s0]
      simp only
      rw [hM]
      exact ⟨⟨by omega, by omega⟩, by omega⟩
    · rw [s1]
      simp only
      rw [hY]
      exact ⟨⟨by omega, by omega⟩, by omega⟩
    · omega
  · have h0 := hf.rt z hz
    rw [r3 z h0, e4 z h0, m3 z, d4 z h0, hov, hav, Nat.one_mul, Nat.mod_mod, ← Nat.pow_mod]
/-- a root of the divisor that a candidate leads to -/
theorem gL_law {f Z : List Nat} {c : Nat} (hp : Mr.Pr p) (h3 : 3 ≤ p) (hp2 : p ≤ 65535) (hf : LinP p f Z) (hZ : Z.length ≤ 60) (hZ2 : 2 ≤ Z.length) (hc : c < p) :
    LR p (gL p 1 f (p + c)) ∧ (gL p 1 f (p + c)).length ≤ 256 ∧ 0 < (gL p 1 f (p + c)).length ∧ litF (gL p 1 f (p + c)) ((gL p 1 f (p + c)).length - 1) = 1 ∧ Dv p (litF (gL p 1 f (p + c))) (litF f) ∧ ∀ z, z ∈ Z → (LV p (gL p 1 f (p + c)) z = 0 ↔ (z + c) ^ ((p - 1) / 2) % p = 1) := by
  have hlen := hf.len
  have hp3 : p ≤ 2147483647 := by omega
  obtain ⟨_, c1, c2, c3⟩ := chr_law (c := c) hp hp2 hf hZ hc
  have eg : gL p 1 f (p + c) = gcL p f (sbL p (chrL p 1 [c, 1] f) [1]) := by
    unfold gL
    rw [hlen, Nat.add_sub_cancel, cand_lin hZ2 hp.1 hc]
  obtain ⟨C, hC⟩ : ∃ C, chrL p 1 [c, 1] f = C := ⟨_, rfl⟩
  rw [hC] at c1 c2 c3 eg
  obtain ⟨s1, s2, s3⟩ := sbL_law hp hp3 c1 (by omega)
  obtain ⟨S, hS⟩ : ∃ S, sbL p C [1] = S := ⟨_, rfl⟩
  rw [hS] at s1 s2 s3 eg
  obtain ⟨g1, g2, g3, g4, g5, g6⟩ := gcL_law hp hp3 hf.lr s1 (by omega) (by omega)
  obtain ⟨G, hG⟩ : ∃ G, gcL p f S = G := ⟨_, rfl⟩
  rw [hG] at g1 g2 g3 g4 g5 g6 eg
  rw [eg]
  have hpos : 0 < G.length := by
    rcases Nat.eq_zero_or_pos G.length with e | e
    · exfalso
      rw [show litF G = fun _ => 0 from funext fun j => g1.2.1 j (show G.length ≤ j by omega)] at g4
      have h5 := g4.of_zero hf.lr.1 Z.length
      have h6 := hf.one
      have h5' : litF f Z.length = 0 := h5
      omega
    · exact e
  refine ⟨g1, g2, hpos, g3 hpos, g4, fun z hz => ?_⟩
  have hs := s3 z
  rw [c3 z hz] at hs
  have hsl := LV.lt (l := S) hp.pos z
  constructor
  · intro h0
    have h7 : LV p S z = 0 := g5.val g1.2.1 s1.2.1 h0
    rw [h7, Nat.mod_eq_of_lt (by omega)] at hs
    exact hs.symm
  · intro h1
    rw [h1] at hs
    have h7 : LV p S z = 0 := by
      rcases Nat.lt_or_ge (LV p S z + 1) p with h8 | h8
      · rw [Nat.mod_eq_of_lt h8] at hs; omega
      · rw [show LV p S z + 1 = p by omega, Nat.mod_self] at hs; omega
    have hzp := hf.lt z hz
    have l1 := lin_dv hp s1.1 s1.2.1 hzp h7
    have l2 := lin_dv hp hf.lr.1 hf.lr.2.1 hzp (hf.rt z hz)
    have hv0 : valF p 2 (linF p z) z = 0 := by rw [val_lin hzp, dif_self hzp]
    exact (g6 _ l2 l1).val (nd := 2) (rs_lin (m := p) (x := z) hp.1).2 g1.2.1 hv0
theorem lin_first {P : Nat → Prop} {a : Nat} : ∀ k, a ≤ k → P k → ∃ m, a ≤ m ∧ m ≤ k ∧ P m ∧ ∀ j, a ≤ j → j < m → ¬ P j := by
  intro k
  induction k using Nat.strongRecOn with
  | _ k ih =>
    intro h1 h2
    rcases Classical.em (∃ j, a ≤ j ∧ j < k ∧ P j) with ⟨j, j1, j2, j3⟩ | h
    · obtain ⟨m, m1, m2, m3, m4⟩ := ih j j2 j1 j3
      exact ⟨m, m1, by omega, m3, m4⟩
    · exact ⟨k, h1, Nat.le_refl _, h2, fun j j1 j2 j3 => h ⟨j, j1, j2, j3⟩⟩
/-- the list of the linear factors -/
theorem lin_tree (hp : Mr.Pr p) (h3 : 3 ≤ p) (hp2 : p ≤ 65535) : ∀ (n : Nat) (f Z : List Nat), Z.length = n → 1 ≤ n → n ≤ 60 → LinP p f Z →
    ∃ L, SplT p 1 f L ∧ L.length = Z.length ∧ (∀ z, z ∈ Z → [(p - z) % p, 1] ∈ L) ∧ ∀ l, l ∈ L → l.length = 2 := by
  intro n
  induction n using Nat.strongRecOn with
  | _ n ih =>
    intro f Z hn h1 h60 hf
    have hlen := hf.len
    by_cases h2 : n = 1
    · refine ⟨[f], SplT.leaf f (by omega), by rw [hn, h2]; rfl, fun z hz => ?_, fun l hl => ?_⟩
      · have hl2 : f.length = 2 := by omega
        match f, hl2, hf with
        | [a, b], _, hf =>
          have hb : b = 1 := by
            have := hf.one
            rw [hn, h2] at this
            exact this
          subst hb
          have hr := hf.rt z hz
          rw [lv_lin] at hr
          have ha : a < p := hf.lr.1 0
          have hzp := hf.lt z hz
          have ea : a = (p - z) % p := by
            rcases Nat.eq_zero_or_pos z with e | e
            · subst e
              rw [Nat.zero_add, Nat.mod_eq_of_lt ha] at hr
              rw [Nat.sub_zero, Nat.mod_self, hr]
            · rw [Nat.mod_eq_of_lt (by omega : p - z < p)]
              rcases Nat.lt_or_ge (z + a) p with h5 | h5
              · rw [Nat.mod_eq_of_lt h5] at hr; omega
              · rw [show z + a = z + a - p + p by omega, Nat.add_mod_right, Nat.mod_eq_of_lt (by omega)] at hr; omega
          rw [ea]
          exact List.mem_singleton.2 rfl
      · rw [List.mem_singleton.1 hl]; omega
    · -- two roots, and a shift that parts them
      obtain ⟨z1, z2, hz1, hz2, hne⟩ : ∃ z1 z2, z1 ∈ Z ∧ z2 ∈ Z ∧ z1 ≠ z2 := by
        match Z, hn, hf with
        | a :: b :: Z', _, hf =>
          refine ⟨a, b, by simp, by simp, fun e => ?_⟩
          have := (List.nodup_cons.1 hf.nd).1
          rw [e] at this
          exact this (by simp)
        | [a], hn, _ => exact absurd hn.symm (by simpa using h2)
        | [], hn, _ => exact absurd hn.symm (by simp; omega)
      have hparts : ∀ c, c < p → (∃ h : List Nat, dmQ p f (gL p 1 f (p + c)) = h ∧ LinP p (gL p 1 f (p + c)) (Z.filter fun z => LV p (gL p 1 f (p + c)) z == 0) ∧ LinP p h (Z.filter fun z => !(LV p (gL p 1 f (p + c)) z == 0))) ∧ (∀ z, z ∈ Z → (LV p (gL p 1 f (p + c)) z = 0 ↔ (z + c) ^ ((p - 1) / 2) % p = 1)) := fun c hc => by
        obtain ⟨g1, g2, g3, g4, g5, g6⟩ := gL_law hp h3 hp2 hf (by omega) (by omega) hc
        exact ⟨lin_split hp (by omega) hf (by omega) g1 g3 g4 g2 g5, g6⟩
      obtain ⟨c, hc, hsep⟩ := shift_parts (N := (p - 1) / 2) hp (by omega) (hf.lt z1 hz1) (hf.lt z2 hz2) hne
      have hgood : 1 < (gL p 1 f (p + c)).length ∧ (gL p 1 f (p + c)).length < f.length := by
        obtain ⟨⟨h, hh, L1, L2⟩, hv⟩ := hparts c hc
        have v1 := hv z1 hz1
        have v2 := hv z2 hz2
        have q1 := L1.len
        have q2 := filt_len (Z := Z) fun z => LV p (gL p 1 f (p + c)) z == 0
        have key : ∀ a b, a ∈ Z → b ∈ Z → LV p (gL p 1 f (p + c)) a = 0 → LV p (gL p 1 f (p + c)) b ≠ 0 → 1 ≤ (Z.filter fun z => LV p (gL p 1 f (p + c)) z == 0).length ∧ 1 ≤ (Z.filter fun z => !(LV p (gL p 1 f (p + c)) z == 0)).length := fun a b ha hb h5 h6 =>
          ⟨List.length_pos_of_mem (List.mem_filter.2 ⟨ha, by simp [h5]⟩), List.length_pos_of_mem (List.mem_filter.2 ⟨hb, by simp [h6]⟩)⟩
        rcases Classical.em (LV p (gL p 1 f (p + c)) z1 = 0) with a1 | a1
        · rcases Classical.em (LV p (gL p 1 f (p + c)) z2 = 0) with a2 | a2
          · exact absurd ⟨fun _ => v2.1 a2, fun _ => v1.1 a1⟩ hsep
          · have := key z1 z2 hz1 hz2 a1 a2
            omega
        · rcases Classical.em (LV p (gL p 1 f (p + c)) z2 = 0) with a2 | a2
          · have := key z2 z1 hz2 hz1 a2 a1
            omega
          · exact absurd ⟨fun h => absurd (v1.2 h) a1, fun h => absurd (v2.2 h) a2⟩ hsep
      obtain ⟨k, k1, k2, k3, k4⟩ := lin_first (P := fun k => 1 < (gL p 1 f k).length ∧ (gL p 1 f k).length < f.length) (a := p) (p + c) (by omega) hgood
      obtain ⟨c', rfl⟩ : ∃ c', k = p + c' := ⟨k - p, by omega⟩
      have hc' : c' < p := by omega
      obtain ⟨⟨h, hh, L1, L2⟩, hv⟩ := hparts c' hc'
      have q1 := L1.len
      have q2 := filt_len (Z := Z) fun z => LV p (gL p 1 f (p + c')) z == 0
      have q3 := L2.len
      obtain ⟨M1, t1, t2, t3, t4⟩ := ih _ (by omega) _ _ rfl (by omega) (by omega) L1
      obtain ⟨M2, s1, s2, s3, s4⟩ := ih _ (by omega) _ _ rfl (by omega) (by omega) L2
      refine ⟨M1 ++ M2, SplT.node f (p + c') M1 M2 (by omega) (by omega) (by omega) (fun j j1 j2 => ?_) k4 k3 t1 (by rw [hh]; exact s1), by rw [List.length_append]; omega, fun z hz => ?_, fun l hl => ?_⟩
      · obtain ⟨e, rfl⟩ : ∃ e, j = p + e := ⟨j - p, by omega⟩
        have he : e < p := by omega
        obtain ⟨b1, b2, b3, _⟩ := chr_law hp hp2 hf (by omega) he
        rw [hlen, Nat.add_sub_cancel, cand_lin (by omega) hp.1 he]
        exact ⟨b1, by omega⟩
      · rcases Classical.em (LV p (gL p 1 f (p + c')) z = 0) with h5 | h5
        · exact List.mem_append_left _ (t3 z (List.mem_filter.2 ⟨hz, by simp [h5]⟩))
        · exact List.mem_append_right _ (s3 z (List.mem_filter.2 ⟨hz, by simp [h5]⟩))
      · rcases List.mem_append.1 hl with h5 | h5
        · exact t4 l h5
        · exact s4 l h5
end
end Go.Proofs.Ytkklacgoeopekaa
