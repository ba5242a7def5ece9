/- What is looked up for the primes, as propositions. No program in sight. -/
import Derived.Test.YtkklacgoeopekaaKm7
import Derived.Test.YtkklacgoeopekaaKd2
import Derived.Test.YtkklacgoeopekaaKd4
namespace Go.Proofs.Ytkklacgoeopekaa
open Go.RowKit
set_option linter.unusedVariables false

theorem gRun_at : ∀ (k p : Nat), gRun k p = true → ∀ j, j < k → isP (p + 2 * j) = true → good5 (p + 2 * j) = true
  | 0, p, _, j, hj, _ => absurd hj (Nat.not_lt_zero _)
  | k + 1, p, h, j, hj, hi => by
    have h1 : (cond (isP p) (good5 p) true && frc (p + 2) (gRun k)) = true := h
    rw [Bool.and_eq_true, frc_eq] at h1
    rcases Nat.eq_zero_or_pos j with rfl | h0
    · rw [Nat.mul_zero, Nat.add_zero] at hi ⊢
      have h2 := h1.1
      rw [hi] at h2
      exact h2
    · have h3 := gRun_at k (p + 2) h1.2 (j - 1) (by omega)
      rw [show p + 2 + 2 * (j - 1) = p + 2 * j by omega] at h3
      exact h3 hi
theorem gAll_at (lo : Nat) : ∀ (k : Nat), gAll lo k = true → ∀ i, i < k → gRun 128 (256 * (lo + i) + 3) = true
  | 0, _, i, hi => absurd hi (Nat.not_lt_zero _)
  | k + 1, h, i, hi => by
    have h1 : (frc (256 * (lo + k) + 3) (gRun 128) && gAll lo k) = true := h
    rw [Bool.and_eq_true, frc_eq] at h1
    rcases Nat.lt_or_ge i k with h2 | h2
    · exact gAll_at lo k h1.2 i h2
    · rw [show i = k by omega]
      exact h1.1
theorem isP_small : ∀ p, p < 256 → isP p = true ∨ p < 2 ∨ ∃ q, q < 16 ∧ 2 ≤ q ∧ q < p ∧ p % q = 0 := by decide +kernel
theorem prP_eq : pr54.foldr (· * ·) 1 = 64266330917908644872330635228106713310880186591609208114244758680898150367880703152525200743234420230 := by decide +kernel
theorem pr_prod {p : Nat} (hp : Mr.Pr p) : ∀ l : List Nat, p ∣ l.foldr (· * ·) 1 → ∃ q, q ∈ l ∧ p ∣ q
  | [], h => by
    have h1 := Nat.le_of_dvd (by decide) h
    have h2 := hp.1
    exact absurd h1 (by show ¬ p ≤ 1; omega)
  | q :: l, h => by
    rcases hp.dvd_mul (show p ∣ q * l.foldr (· * ·) 1 from h) with h1 | h1
    · exact ⟨q, by simp, h1⟩
    · obtain ⟨r, h2, h3⟩ := pr_prod hp l h1
      exact ⟨r, by simp [h2], h3⟩
theorem isP_of {p : Nat} (hp : Mr.Pr p) : isP p = true := by
  rcases Nat.lt_or_ge p 256 with h | h
  · rcases isP_small p h with h1 | h1 | ⟨q, _, h1, h2, h3⟩
    · exact h1
    · have := hp.1; omega
    · rcases hp.2 q (Nat.dvd_of_mod_eq_zero h3) with e | e <;> omega
  · have h0 : Nat.ble p 255 = false := by
      rcases hb : Nat.ble p 255 with _ | _
      · rfl
      · exact absurd (Nat.le_of_ble_eq_true hb) (by omega)
    unfold isP
    rw [h0]
    show Nat.beq (Nat.gcd p _) 1 = true
    rw [hp.coprime]
    · rfl
    · rw [← prP_eq]
      intro hd
      obtain ⟨q, h1, h2⟩ := pr_prod hp _ hd
      have h3 : ∀ q, q ∈ pr54 → 0 < q ∧ q < 256 := by decide +kernel
      have h4 := h3 q h1
      have h5 := Nat.le_of_dvd h4.1 h2
      omega
theorem good5_of {p : Nat} (hp : Mr.Pr p) (h3 : 3 ≤ p) (h6 : p ≤ 65535) : good5 p = true := by
  have hodd := pr_odd hp h3
  have key : ∀ lo, gAll lo 64 = true → ∀ i, i < 64 → (p - 3) / 256 = lo + i → good5 p = true := fun lo h i hi e => by
    have h1 := gRun_at 128 _ (gAll_at lo 64 h i hi) ((p - 3) % 256 / 2) (by omega)
    rw [show 256 * (lo + i) + 3 + 2 * ((p - 3) % 256 / 2) = p by omega] at h1
    exact h1 (isP_of hp)
  have hq : (p - 3) / 256 < 256 := by omega
  rcases Nat.lt_or_ge ((p - 3) / 256) 64 with h1 | h1
  · exact key 0 gAll1 _ h1 (by omega)
  rcases Nat.lt_or_ge ((p - 3) / 256) 128 with h2 | h2
  · exact key 64 gAll2 ((p - 3) / 256 - 64) (by omega) (by omega)
  rcases Nat.lt_or_ge ((p - 3) / 256) 192 with h4 | h4
  · exact key 128 gAll3 ((p - 3) / 256 - 128) (by omega) (by omega)
  · exact key 192 gAll4 ((p - 3) / 256 - 192) (by omega) (by omega)
theorem good_of {p n : Nat} (hp : Mr.Pr p) (h3 : 3 ≤ p) (h6 : p ≤ 65535) (hn : dimF (n : Int)) : good p n = true := by
  have h := good5_of hp h3 h6
  unfold good5 at h
  rw [Bool.and_eq_true, Bool.and_eq_true, Bool.and_eq_true, Bool.and_eq_true] at h
  unfold dimF at hn
  have hc : n = 2 ∨ n = 4 ∨ n = 8 ∨ n = 16 ∨ n = 32 := by omega
  rcases hc with rfl | rfl | rfl | rfl | rfl
  · exact h.1
  · exact h.2.1
  · exact h.2.2.1
  · exact h.2.2.2.1
  · exact h.2.2.2.2
/-- what holds of the residues modulo 2 n -/
def tab (n r : Nat) : Bool :=
  Nat.ble 1 (dOf n r) && (Nat.beq (r ^ dOf n r % (2 * n)) 1 && ((List.range (dOf n r)).all fun j => Nat.beq j 0 || !(Nat.beq (r ^ j % (2 * n)) 1)) &&
    (Nat.beq (dOf n r) 1 || (Nat.beq (dOf n r) (2 * (dOf n r / 2)) && ([1, 2, 4, 8].elem (dOf n r / 2) && (Nat.beq n (2 * (n / dOf n r) * (dOf n r / 2)) && (Nat.ble 1 (n / dOf n r) && (Nat.beq (2 ^ Nat.log2 (n / dOf n r)) (n / dOf n r) &&
      (((List.range (dOf n r / 2)).map fun j => r ^ (2 * j) % (2 * n)).isPerm (Rg.prog n (dOf n r / 2)) &&
        (Nat.beq (r % (4 * (n / dOf n r))) (2 * (n / dOf n r) + 1) || (Nat.beq (r % (4 * (n / dOf n r))) (2 * (n / dOf n r) - 1) || Nat.beq (r % (4 * (n / dOf n r))) (4 * (n / dOf n r) - 1)))))))))))
theorem tab_all : ∀ n, n ∈ [2, 4, 8, 16, 32] → ∀ r, r < 2 * n → r % 2 = 1 → tab n r = true := by decide +kernel
theorem tab_of {p n : Nat} (hn : dimF (n : Int)) (hodd : p % 2 = 1) : tab n (p % (2 * n)) = true := by
  unfold dimF at hn
  have hc : n = 2 ∨ n = 4 ∨ n = 8 ∨ n = 16 ∨ n = 32 := by omega
  refine tab_all n (by rcases hc with rfl | rfl | rfl | rfl | rfl <;> simp) _ (Nat.mod_lt _ (by omega)) ?_
  rw [Nat.mod_mul_right_mod]
  exact hodd
/-- the degree, and what it says -/
theorem dg_tab {p n d : Nat} (hn : dimF (n : Int)) (hodd : p % 2 = 1) (hd : Dg n p d) : dOf n (p % (2 * n)) = d := by
  have h := tab_of (p := p) hn hodd
  unfold tab at h
  rw [Bool.and_eq_true, Bool.and_eq_true, Bool.and_eq_true] at h
  obtain ⟨h1, ⟨h2, h3⟩, _⟩ := h
  have h1' := Nat.le_of_ble_eq_true h1
  have h2' := Nat.eq_of_beq_eq_true h2
  rw [← Nat.pow_mod] at h2'
  rcases Nat.lt_trichotomy (dOf n (p % (2 * n))) d with h4 | h4 | h4
  · exact absurd h2' (hd.2.2 _ h1' h4)
  · exact h4
  · exfalso
    rw [List.all_eq_true] at h3
    have h5 := h3 d (List.mem_range.2 h4)
    have h6 : Nat.beq d 0 = false := by
      rcases hb : Nat.beq d 0 with _ | _
      · rfl
      · have := Nat.eq_of_beq_eq_true hb
        have := hd.1
        omega
    rw [h6, ← Nat.pow_mod, hd.2.1] at h5
    exact absurd h5 (by decide)
theorem par_tab {p n d : Nat} (hn : dimF (n : Int)) (hodd : p % 2 = 1) (hd : Dg n p d) (h1 : d ≠ 1) : ∃ e m, d = 2 * e ∧ m = n / d ∧ e = d / 2 ∧ Par p n e m ∧ (p % (4 * m) = 2 * m + 1 ∨ p % (4 * m) = 2 * m - 1 ∨ p % (4 * m) = 4 * m - 1) := by
  have hdd := dg_tab hn hodd hd
  have h := tab_of (p := p) hn hodd
  unfold tab at h
  rw [hdd] at h
  rw [Bool.and_eq_true, Bool.and_eq_true] at h
  obtain ⟨_, _, h2⟩ := h
  rw [Bool.or_eq_true] at h2
  rcases h2 with h2 | h2
  · exact absurd (Nat.eq_of_beq_eq_true h2) h1
  simp only [Bool.and_eq_true, Bool.or_eq_true] at h2
  obtain ⟨a1, a2, a3, a4, a5, a6, a7⟩ := h2
  have b1 := Nat.eq_of_beq_eq_true a1
  have b3 := Nat.eq_of_beq_eq_true a3
  have b4 := Nat.le_of_ble_eq_true a4
  have b5 := Nat.eq_of_beq_eq_true a5
  have b2 : d / 2 = 1 ∨ d / 2 = 2 ∨ d / 2 = 4 ∨ d / 2 = 8 := by simpa using a2
  have b6 := List.isPerm_iff.1 a6
  refine ⟨d / 2, n / d, b1, rfl, rfl, ⟨b2, b3, ⟨b4, b5⟩, ?_⟩, ?_⟩
  · have e1 : ((List.range (d / 2)).map fun j => p ^ (2 * j) % (2 * n)) = (List.range (d / 2)).map fun j => (p % (2 * n)) ^ (2 * j) % (2 * n) := List.map_congr_left fun j _ => Nat.pow_mod _ _ _
    rw [e1]
    exact b6
  · have e2 : p % (2 * n) % (4 * (n / d)) = p % (4 * (n / d)) := Nat.mod_mod_of_dvd _ ⟨d / 2, by
      conv => lhs; rw [b3]
      generalize n / d = m
      generalize d / 2 = e
      rw [← Nat.mul_assoc, ← Nat.mul_assoc]⟩
    rw [e2] at a7
    rcases a7 with h | h | h
    · exact .inl (Nat.eq_of_beq_eq_true h)
    · exact .inr (.inl (Nat.eq_of_beq_eq_true h))
    · exact .inr (.inr (Nat.eq_of_beq_eq_true h))
theorem tAll_at {p m : Nat} : ∀ {T : List (Nat × Nat)}, tAll p m T = true → ∀ t, t ∈ T → tChk p m t = true
  | [], _, t, ht => absurd ht (by simp)
  | u :: T, h, t, ht => by
    have h1 : (tChk p m u && tAll p m T) = true := h
    rw [Bool.and_eq_true] at h1
    rcases List.mem_cons.1 ht with rfl | h2
    · exact h1.1
    · exact tAll_at h1.2 t h2
theorem beq_false {a b : Nat} (h : a ≠ b) : Nat.beq a b = false := by
  rcases hb : Nat.beq a b with _ | _
  · rfl
  · exact absurd (Nat.eq_of_beq_eq_true hb) h
theorem tri_chk {p n e m : Nat} {t : Nat × Nat} (hr : p % (4 * m) = 2 * m + 1 ∨ p % (4 * m) = 2 * m - 1 ∨ p % (4 * m) = 4 * m - 1) (h : tChk p m t = true) : Tri p n e m t := by
  unfold tChk at h
  rw [Bool.and_eq_true, Bool.and_eq_true, Bool.and_eq_true] at h
  obtain ⟨h1, h2, h3, h4⟩ := h
  refine ⟨Nat.le_of_ble_eq_true h1, Nat.le_of_ble_eq_true h2, h3, ?_⟩
  by_cases c1 : p % (4 * m) = 2 * m + 1
  · rw [c1, Nat.beq_refl] at h4
    exact .inl ⟨c1, Nat.eq_of_beq_eq_true h4⟩
  rw [beq_false c1] at h4
  by_cases c2 : p % (4 * m) = 2 * m - 1
  · rw [c2, Nat.beq_refl] at h4
    exact .inr (.inl ⟨c1, c2, Nat.eq_of_beq_eq_true h4⟩)
  rw [beq_false c2] at h4
  exact .inr (.inr ⟨c1, by omega, Nat.eq_of_beq_eq_true h4⟩)
theorem nin_not {a : Nat} : ∀ {l : List Nat}, nin a l = true → a ∉ l
  | [], _, h => absurd h (by simp)
  | b :: l, h, hm => by
    have h1 : cond (Nat.beq a b) false (nin a l) = true := h
    by_cases e : a = b
    · rw [e, Nat.beq_refl] at h1
      exact Bool.noConfusion h1
    · rw [beq_false e] at h1
      rcases List.mem_cons.1 hm with h2 | h2
      · exact e h2
      · exact nin_not h1 h2
theorem dis_nodup : ∀ {l : List Nat}, dis l = true → l.Nodup
  | [], _ => List.nodup_nil
  | a :: l, h => by
    have h1 : (nin a l && dis l) = true := h
    rw [Bool.and_eq_true] at h1
    exact List.nodup_cons.2 ⟨nin_not h1.1, dis_nodup h1.2⟩
theorem kapN_eq (p e A B c : Nat) : kapN p e ((p - 1) / 2 / 256) ((p - 1) / 2 % 256) A B c = Nat.beq (((c ^ (2 * e) + A * c ^ e + B) % p) ^ ((p - 1) / 2) % p) 1 := by
  unfold kapN
  rw [frc_eq, frc_eq]
  have h := pw_eq ((c ^ (2 * e) + A * c ^ e + B) % p) ((p - 1) / 2) p
  unfold pw at h
  rw [frc_eq] at h
  rw [h]
theorem sgN_eq {p e k1 k0 A B A' B' : Nat} : ∀ C, (∀ c, 1 ≤ c → c ≤ C → kapN p e k1 k0 A B c = kapN p e k1 k0 A' B' c) → sgN p e k1 k0 A B C = sgN p e k1 k0 A' B' C
  | 0, _ => rfl
  | C + 1, h => by
    show 2 * sgN p e k1 k0 A B C + cond (kapN p e k1 k0 A B (C + 1)) 1 0 = 2 * sgN p e k1 k0 A' B' C + cond (kapN p e k1 k0 A' B' (C + 1)) 1 0
    rw [sgN_eq C fun c h1 h2 => h c h1 (by omega), h (C + 1) (by omega) (Nat.le_refl _)]
theorem sgL_eq {p e k1 k0 C : Nat} (hp : 2 ≤ p) (he : 1 ≤ e) : ∀ T : List (Nat × Nat), sgL p e k1 k0 C T = T.map fun t => sgN p e k1 k0 (kpA p e (tri p e t)) (litF (tri p e t) 0) C
  | [] => rfl
  | t :: T => by
    have l0 : litF (tri p e t) 0 = (p - t.2) % p := by
      rw [tri_litF hp he]
      unfold triF
      rw [if_neg (by omega), if_neg (by omega), if_pos rfl]
    have le : litF (tri p e t) e = (p - t.1) % p := by
      rw [tri_litF hp he]
      unfold triF
      rw [if_neg (by omega), if_pos rfl]
    have lA : kpA p e (tri p e t) = cond (Nat.beq e 1) (p - (p - t.1) % p) ((p - t.1) % p) := by
      unfold kpA
      rw [le]
      by_cases h : e = 1
      · rw [if_pos h, h]; rfl
      · rw [if_neg h, beq_false h]; rfl
    rw [List.map_cons, ← sgL_eq hp he T, l0, lA]
    show (frc (cond (Nat.beq e 1) (p - (p - t.1) % p) ((p - t.1) % p)) fun A => frc ((p - t.2) % p) fun B => frc (sgN p e k1 k0 A B C) fun s => s :: sgL p e k1 k0 C T) = _
    rw [frc_eq, frc_eq, frc_eq]
theorem pw_all {α : Type} {R : α → α → Prop} (hs : ∀ a b, R a b → R b a) : ∀ {l : List α}, l.Pairwise R → ∀ a b, a ∈ l → b ∈ l → a ≠ b → R a b
  | [], _, a, b, ha, _, _ => absurd ha (by simp)
  | c :: l, h, a, b, ha, hb, hne => by
    obtain ⟨h1, h2⟩ := List.pairwise_cons.1 h
    rcases List.mem_cons.1 ha with ea | ha2
    · rcases List.mem_cons.1 hb with eb | hb2
      · exact absurd (ea.trans eb.symm) hne
      · rw [ea]
        exact h1 b hb2
    · rcases List.mem_cons.1 hb with eb | hb2
      · rw [eb]
        exact hs _ _ (h1 a ha2)
      · exact pw_all hs h2 a b ha2 hb2 hne
theorem sep_at {p e C : Nat} {T : List (Nat × Nat)} (hp : 2 ≤ p) (he : 1 ≤ e) (h : sepC p e T C = true) : (T.map (tri p e)).Nodup ∧ ∀ φ ψ, φ ∈ T.map (tri p e) → ψ ∈ T.map (tri p e) → φ ≠ ψ → ∃ c, c < p ∧ ¬ (kpV p e φ c = 1 ↔ kpV p e ψ c = 1) := by
  unfold sepC at h
  rw [Bool.and_eq_true, frc_eq, frc_eq] at h
  have h1 := Nat.le_of_ble_eq_true h.1
  have h2 := dis_nodup h.2
  rw [sgL_eq hp he] at h2
  have h3 : (T.map (tri p e)).Pairwise fun φ ψ => sgN p e ((p - 1) / 2 / 256) ((p - 1) / 2 % 256) (kpA p e φ) (litF φ 0) C ≠ sgN p e ((p - 1) / 2 / 256) ((p - 1) / 2 % 256) (kpA p e ψ) (litF ψ 0) C := by
    rw [List.pairwise_map]
    exact List.pairwise_map.1 h2
  refine ⟨List.Pairwise.imp_of_mem (fun _ _ hne e => hne (by rw [e])) h3, fun φ ψ m1 m2 hne => ?_⟩
  have h4 : sgN p e ((p - 1) / 2 / 256) ((p - 1) / 2 % 256) (kpA p e φ) (litF φ 0) C ≠ sgN p e ((p - 1) / 2 / 256) ((p - 1) / 2 % 256) (kpA p e ψ) (litF ψ 0) C :=
    pw_all (fun a b h e => h e.symm) h3 φ ψ m1 m2 hne
  apply Classical.byContradiction
  intro hno
  refine h4 (sgN_eq C fun c c1 c2 => ?_)
  rw [kapN_eq, kapN_eq]
  have h5 : kpV p e φ c = 1 ↔ kpV p e ψ c = 1 := Classical.byContradiction fun hn => hno ⟨c, by omega, hn⟩
  show Nat.beq (kpV p e φ c) 1 = Nat.beq (kpV p e ψ c) 1
  by_cases h6 : kpV p e φ c = 1
  · rw [h6, h5.1 h6]
  · rw [beq_false h6, beq_false fun h => h6 (h5.2 h)]
theorem whole_res {p k : Nat} (hp : 2 ≤ p) : Res p (k + 1, wholeF k) := ⟨fun j => by
  show wholeF k j < p
  unfold wholeF
  split
  · omega
  · split <;> omega, fun j hj => by
  have hj' : k + 1 ≤ j := hj
  show wholeF k j = 0
  unfold wholeF
  rw [if_neg (by omega), if_neg (by omega)], tl_unique (Nat.le_refl _) (fun j h1 h2 => by have h1' : k + 1 ≤ j := h1; have h2' : j < k + 1 := h2; omega) fun _ => by
  show wholeF k (k + 1 - 1) ≠ 0
  unfold wholeF
  rw [if_pos (by omega)]
  exact Nat.one_ne_zero⟩
/-- the family of the factors for d > 1 -/
theorem tri_fam {p n d : Nat} (hp : Mr.Pr p) (h3 : 3 ≤ p) (h6 : p ≤ 65535) (hn : dimF (n : Int)) (hd : Dg n p d) (h1 : d ≠ 1) :
    ∃ Φ κ, Fam p d hp Φ κ ∧ FP p d Φ (wholeL n) Φ ∧ d * Φ.length = n := by
  have hodd := pr_odd hp h3
  obtain ⟨e, m, e1, e2, e3, hP, hr⟩ := par_tab hn hodd hd h1
  have hg := good_of hp h3 h6 hn
  unfold good at hg
  rw [frc_eq, frc_eq, dg_tab hn hodd hd, beq_false h1] at hg
  have hg2 : (frc (d / 2) fun e => frc (n / d) fun m => good1 p e m (tOf p m)) = true := hg
  rw [frc_eq, frc_eq, ← e2, ← e3] at hg2
  generalize tOf p m = T at hg2
  unfold good1 at hg2
  rw [Bool.and_eq_true, Bool.and_eq_true] at hg2
  obtain ⟨g1, g2, g3⟩ := hg2
  have hT := Nat.eq_of_beq_eq_true g1
  have he1 := hP.e1
  have htri : ∀ t, t ∈ T → Tri p n e m t := fun t ht => tri_chk hr (tAll_at g2 t ht)
  obtain ⟨C, hC⟩ : ∃ C, sepC p e T C = true := by
    rw [Bool.or_eq_true] at g3
    rcases g3 with h | h
    · rcases hb : Nat.ble m 2 with _ | _
      · rw [hb] at h
        exact Bool.noConfusion h
      · rw [hb] at h
        exact ⟨_, h⟩
    · simp only [Bool.or_eq_true] at h
      rcases h with h | h | h <;> exact ⟨_, h⟩
  obtain ⟨s1, s2⟩ := sep_at hp.1 he1 hC
  have hmem : ∀ φ, φ ∈ T.map (tri p e) → ∃ t, t ∈ T ∧ tri p e t = φ := fun φ h => List.mem_map.1 h
  have hnd : d * (T.map (tri p e)).length = n := by
    rw [List.length_map, hT, hP.hn, e1]
    generalize e = a
    generalize m = b
    rw [Nat.mul_assoc, Nat.mul_comm a b, ← Nat.mul_assoc]
  have hwl : (wholeL n).length = n + 1 := toL_len _ _
  have hw := whole_res (p := p) (k := n) hp.1
  refine ⟨T.map (tri p e), kpV p e, ⟨fun φ h => ?_, fun φ h => ?_, fun φ h => ?_, fun φ ψ a b hne => ?_, fun φ c => Nat.mod_lt _ hp.pos, fun φ c h hc => ?_, s2⟩, ⟨fun φ h => h, s1, LR.of (P := (n + 1, wholeF n)) hw, by rw [hwl, hnd], ?_, fun φ h => ?_⟩, hnd⟩
  · obtain ⟨t, _, rfl⟩ := hmem φ h
    exact tri_lr hp.1 he1
  · obtain ⟨t, _, rfl⟩ := hmem φ h
    rw [tri_len, e1]
  · obtain ⟨t, _, rfl⟩ := hmem φ h
    rw [tri_litF hp.1 he1, e1]
    unfold triF
    rw [if_pos rfl]
  · obtain ⟨t, ht, rfl⟩ := hmem φ a
    obtain ⟨u, hu, rfl⟩ := hmem ψ b
    exact Tri.cop hp h3 hP (htri t ht) (htri u hu) hne
  · obtain ⟨t, ht, rfl⟩ := hmem φ h
    rw [e1]
    exact Tri.chr hp h3 hP (htri t ht) c
  · rw [hnd, show litF (wholeL n) = wholeF n from litF_toL hw.2.1]
    unfold wholeF
    rw [if_pos rfl]
  · obtain ⟨t, ht, rfl⟩ := hmem φ h
    exact Tri.whole hp hP (htri t ht)
end Go.Proofs.Ytkklacgoeopekaa
