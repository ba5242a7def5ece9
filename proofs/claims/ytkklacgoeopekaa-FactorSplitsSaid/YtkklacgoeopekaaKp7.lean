/- The factors of x^n + 1 modulo p: the family, for every degree; and their product. No program in sight. -/
import Derived.Test.YtkklacgoeopekaaKo7
import Derived.Test.YtkklacgoeopekaaLW7
import Derived.Test.YtkklacgoeopekaaRMod7
namespace Go.Proofs.Ytkklacgoeopekaa
open Go.RowKit
set_option linter.unusedVariables false

section
variable {p : Nat}
theorem lprod_1 {R : Type} [CRg R] (a : R) (q : Nat) : Rg.lprod ((List.range 1).map fun j => a ^ (q ^ j)) = a := by
  show a ^ (q ^ 0) * 1 = a
  rw [Nat.pow_zero]
  exact rg0 [a] (by decide +kernel)
theorem lin_x {a : Nat} {hp : 0 < p} : fv p hp (litF [a, 1]) (monoF 1 1) = -(a : KR p hp (litF [a, 1])) := by
  have h1 : lv p hp (litF [a, 1]) [a, 1] = 0 := fv_self (hp := hp) (φ := litF [a, 1]) (litF_end _)
  rw [lin_fv] at h1
  generalize fv p hp (litF [a, 1]) (monoF 1 1) = X at h1 ⊢
  generalize (a : KR p hp (litF [a, 1])) = A at h1 ⊢
  exact rg1 [X, A] h1 (1) (by decide +kernel)
def kp1 (p : Nat) (φ : List Nat) (c : Nat) : Nat := ((p - litF φ 0) % p + c) ^ ((p - 1) / 2) % p
/-- linear polynomials -/
theorem lin_fam {Φ : List (List Nat)} (hp : Mr.Pr p) (h3 : 3 ≤ p) (h : ∀ φ, φ ∈ Φ → ∃ a, a < p ∧ φ = [a, 1]) : Fam p 1 hp Φ (kp1 p) where
  lr φ hφ := by
    obtain ⟨a, ha, rfl⟩ := h φ hφ
    exact lr_lin hp.1 ha
  len φ hφ := by
    obtain ⟨a, ha, rfl⟩ := h φ hφ
    rfl
  one φ hφ := by
    obtain ⟨a, ha, rfl⟩ := h φ hφ
    rfl
  cop φ ψ hφ hψ hne := by
    obtain ⟨a, ha, rfl⟩ := h φ hφ
    obtain ⟨b, hb, rfl⟩ := h ψ hψ
    have hab : b ≠ a := fun e => hne (by rw [e])
    obtain ⟨w, hw⟩ := unit_sub (hp := hp) (φ := litF [a, 1]) hb ha hab
    refine ⟨w, ?_⟩
    rw [lin_fv, lin_x, ← hw]
    generalize (a : KR p hp.pos (litF [a, 1])) = A
    generalize (b : KR p hp.pos (litF [a, 1])) = B
    exact rg0 [A, B, w] (by decide +kernel)
  klt φ c := Nat.mod_lt _ hp.pos
  chr φ c hφ hc := by
    obtain ⟨a, ha, rfl⟩ := h φ hφ
    have h0 : ((p : Nat) : KR p hp.pos (litF [a, 1])) = 0 := KR.p0
    rw [lprod_1, lin_fv, lin_x]
    unfold kp1
    rw [show litF [a, 1] 0 = a from rfl, Rg.cast_mod h0, Rg.cast_pow, Rg.cast_add, Rg.cast_mod h0, Rg.cast_sub h0 (Nat.le_of_lt ha)]
  sep φ ψ hφ hψ hne := by
    obtain ⟨a, ha, rfl⟩ := h φ hφ
    obtain ⟨b, hb, rfl⟩ := h ψ hψ
    have hab : a ≠ b := fun e => hne (by rw [e])
    have hz : (p - a) % p ≠ (p - b) % p := fun e => by
      rcases Nat.eq_zero_or_pos a with rfl | h1
      · rw [Nat.sub_zero, Nat.mod_self, Nat.mod_eq_of_lt (by omega)] at e; omega
      · rcases Nat.eq_zero_or_pos b with rfl | h2
        · rw [Nat.sub_zero, Nat.mod_self, Nat.mod_eq_of_lt (by omega)] at e; omega
        · rw [Nat.mod_eq_of_lt (by omega), Nat.mod_eq_of_lt (by omega)] at e; omega
    exact shift_parts hp (N := (p - 1) / 2) (by omega) (Nat.mod_lt _ hp.pos) (Nat.mod_lt _ hp.pos) hz
theorem lin_fp {n ψ : Nat} (hp : Mr.Pr p) (h3 : 3 ≤ p) (hn : 2 ≤ n) (hrt : Rt p n ψ) : ∃ Φ κ, Fam p 1 hp Φ κ ∧ FP p 1 Φ (wholeL n) Φ ∧ 1 * Φ.length = n := by
  obtain ⟨Z, hZ⟩ : ∃ Z, (List.range n).map (fun i => ψ ^ (2 * i + 1) % p) = Z := ⟨_, rfl⟩
  have hZl : Z.length = n := by rw [← hZ]; simp
  have hmem : ∀ z, z ∈ Z → z < p ∧ (1 + z ^ n) % p = 0 := fun z hz => by
    rw [← hZ] at hz
    obtain ⟨i, _, rfl⟩ := List.mem_map.1 hz
    refine ⟨Nat.mod_lt _ hp.pos, ?_⟩
    have h1 : Cg p (1 + (ψ : Int) ^ n) 0 := ((Cg.refl p 1).add hrt.neg).trans (Cg.of_eq (by omega))
    have h2 := odd_root (M := p) (by omega) h1 i
    have hp2 := hp.1
    rw [Nat.add_mod, h2, Nat.mod_eq_of_lt (by omega : 1 < p), show 1 + (p - 1) = p by omega, Nat.mod_self]
  have hZn : Z.Nodup := by
    rw [← hZ]
    show List.Pairwise _ _
    rw [List.pairwise_map]
    refine List.Pairwise.imp_of_mem ?_ (List.pairwise_lt_range (n := n))
    intro a b ha hb hab he
    have hb2 := List.mem_range.1 hb
    exact Ordr.inj hp hrt.ord (by omega) (by omega) he
  have hneg : ∀ z, z < p → p - (p - z) % p = (if z = 0 then p else z) := fun z hz => by
    split
    · rename_i e; rw [e, Nat.sub_zero, Nat.mod_self]; rfl
    · rw [Nat.mod_eq_of_lt (by omega)]; omega
  have hnd : (Z.map fun z => [(p - z) % p, 1]).Nodup := by
    show List.Pairwise _ _
    rw [List.pairwise_map]
    refine List.Pairwise.imp_of_mem ?_ (show Z.Pairwise (· ≠ ·) from hZn)
    intro a b ha hb hab he
    have h1 : (p - a) % p = (p - b) % p := by
      have := List.head_eq_of_cons_eq he
      exact this
    have h2 := hneg a (hmem a ha).1
    have h4 := hneg b (hmem b hb).1
    rw [h1, h4] at h2
    have h5 := (hmem a ha).1
    have h6 := (hmem b hb).1
    split at h2 <;> split at h2 <;> omega
  have hΦ : ∀ φ, φ ∈ Z.map (fun z => [(p - z) % p, 1]) → ∃ z, z ∈ Z ∧ [(p - z) % p, 1] = φ := fun φ h => List.mem_map.1 h
  have hwl : (wholeL n).length = n + 1 := toL_len _ _
  have hw := whole_res (p := p) (k := n) hp.1
  have hF : litF (wholeL n) = wholeF n := litF_toL hw.2.1
  have hlen : 1 * (Z.map fun z => [(p - z) % p, 1]).length = n := by rw [List.length_map, hZl, Nat.one_mul]
  refine ⟨Z.map fun z => [(p - z) % p, 1], kp1 p, lin_fam hp h3 fun φ h => ?_, ⟨fun φ h => h, hnd, LR.of (P := (n + 1, wholeF n)) hw, by rw [hlen, hwl], ?_, fun φ h => ?_⟩, hlen⟩
  · obtain ⟨z, hz, rfl⟩ := hΦ φ h
    exact ⟨_, Nat.mod_lt _ hp.pos, rfl⟩
  · rw [hlen, hF]
    unfold wholeF
    rw [if_pos rfl]
  · obtain ⟨z, hz, rfl⟩ := hΦ φ h
    obtain ⟨z1, z2⟩ := hmem z hz
    obtain ⟨a, ha⟩ : ∃ a, (p - z) % p = a := ⟨_, rfl⟩
    rw [ha, hF]
    refine dv_fv (hp := hp.pos) (n := n + 1) hw.2.1 ?_
    have h0 : ((p : Nat) : KR p hp.pos (litF [a, 1])) = 0 := KR.p0
    have hx : (z : KR p hp.pos (litF [a, 1])) = -(a : KR p hp.pos (litF [a, 1])) := by
      rw [← ha, Rg.cast_mod (by rw [ha]; exact h0), Rg.cast_sub (by rw [ha]; exact h0) (Nat.le_of_lt z1), ha]
      generalize (z : KR p hp.pos (litF [a, 1])) = A
      exact rg0 [A] (by decide +kernel)
    have h5 : (((1 + z ^ n) % p : Nat) : KR p hp.pos (litF [a, 1])) = 0 := by rw [z2, Rg.cast_zero]
    rw [Rg.cast_mod h0, Rg.cast_add, Rg.cast_one, Rg.cast_pow, hx] at h5
    rw [whole_fv (by omega), lin_x]
    generalize (-(a : KR p hp.pos (litF [a, 1]))) ^ n = A at h5 ⊢
    exact rg1 [A] h5 (1) (by decide +kernel)
/-- the family of the factors -/
theorem all_fam {n d : Nat} (hp : Mr.Pr p) (h3 : 3 ≤ p) (h6 : p ≤ 65535) (hn : dimF (n : Int)) (hd : Dg n p d) : ∃ Φ κ, Fam p d hp Φ κ ∧ FP p d Φ (wholeL n) Φ ∧ d * Φ.length = n := by
  by_cases h1 : d = 1
  · subst h1
    have hn2 : 2 ≤ n := by unfold dimF at hn; omega
    have h2 := hd.2.1
    rw [Nat.pow_one] at h2
    obtain ⟨a, ha⟩ := exists_ord hp (2 * n) (by omega) ⟨(p - 1) / (2 * n), by
      have h5 := Nat.div_add_mod p (2 * n)
      rw [h2] at h5
      have h7 : p - 1 = 2 * n * (p / (2 * n)) := by omega
      rw [h7, Nat.mul_div_cancel_left _ (by omega)]⟩
    exact lin_fp hp h3 hn2 ⟨hp, by omega, ha⟩
  · exact tri_fam hp h3 h6 hn hd h1
/-! ### the product -/
theorem lr_ext {a b : List Nat} (ha : LR p a) (hb : LR p b) (h : ∀ j, litF a j = litF b j) : a = b := by
  refine list_ext ?_ h
  rcases Nat.lt_trichotomy a.length b.length with e | e | e
  · have h1 := hb.last (by omega)
    rw [← h, litF_end a _ (by omega)] at h1
    exact absurd rfl h1
  · exact e
  · have h1 := ha.last (by omega)
    rw [h, litF_end b _ (by omega)] at h1
    exact absurd rfl h1
theorem mlL_lit {a b : List Nat} (hp : Mr.Pr p) (hp2 : p ≤ 2147483647) (ha : LR p a) (hb : LR p b) (hn : a.length + b.length ≤ 200) : litF (mlL p a b) = mulF p (litF a) (litF b) := by
  have hE : mlE p a.length (litF a) b.length (litF b) = 0 := by
    unfold mlE
    rw [chk2_of (ha.chk hp.1 hp2 (by omega)) (hb.chk hp.1 hp2 (by omega)), if_pos rfl, if_neg (by omega)]
  have e : mlL p a b = toL (prodP p (a.length, litF a) (b.length, litF b)).1 (prodP p (a.length, litF a) (b.length, litF b)).2 := by
    unfold mlL mlF
    rw [if_pos hE]
    rfl
  obtain ⟨r1, r2⟩ := res_prod (p := (a.length, litF a)) (q := (b.length, litF b)) ha hb hp.pos
  rw [e, (toL_pair r1).2]
  rfl
/-- the product of the first ones -/
def accL (p : Nat) (M : List (List Nat)) : Nat → List Nat
  | 0 => [1]
  | i + 1 => mlL p (accL p M i) (M.getD i [])
theorem mulF_one {a : Nat → Nat} (h : ∀ j, a j < p) : mulF p a (oneF 1) = a := funext fun j => by rw [mulF_comm, mulF_conv, conv_oneF, Nat.one_mul, Nat.mod_eq_of_lt (h j)]
theorem acc_law {d : Nat} {hp : Mr.Pr p} {Φ M : List (List Nat)} {f : List Nat} {κ : List Nat → Nat → Nat} (hF : Fam p d hp Φ κ) (h6 : p ≤ 65535) (hd : 1 ≤ d) (hf : FP p d Φ f M) (hl : d * M.length ≤ 60) : ∀ i, i ≤ M.length →
    LR p (accL p M i) ∧ (accL p M i).length ≤ 1 + (d + 1) * i ∧ ∃ h, FP p d Φ h (M.drop i) ∧ litF f = mulF p (litF (accL p M i)) (litF h)
  | 0, _ => ⟨LR.one hp.1, by show 1 ≤ _; omega, f, hf, by
    show _ = mulF p (litF [1]) (litF f)
    rw [mulF_comm, litF_one, mulF_one hf.lr.1]⟩
  | i + 1, hi => by
    obtain ⟨a1, a2, h, a3, a4⟩ := acc_law hF h6 hd hf hl i (by omega)
    have hdr : M.drop i = M.getD i [] :: M.drop (i + 1) := by
      rw [List.drop_eq_getElem_cons (by omega), List.getD_eq_getElem?_getD, List.getElem?_eq_getElem (by omega)]
      rfl
    have e0 : accL p M (i + 1) = mlL p (accL p M i) (M.getD i []) := rfl
    rw [e0]
    rw [hdr] at a3
    generalize M.getD i [] = φ at a3 ⊢
    obtain ⟨I, hI⟩ : ∃ I, M.drop (i + 1) = I := ⟨_, rfl⟩
    have hIl : I.length = M.length - (i + 1) := by rw [← hI, List.length_drop]
    rw [hI] at a3 ⊢
    have hφ := a3.sub φ (by simp)
    have l1 := hF.len φ hφ
    have l2 := a3.len
    rw [List.length_cons, Nat.mul_succ] at l2
    have hdi : d * (i + 1) ≤ d * M.length := Nat.mul_le_mul_left d hi
    have hdI : d * I.length ≤ d * M.length := Nat.mul_le_mul_left d (by omega)
    have hii : i + 1 ≤ d * (i + 1) := Nat.le_mul_of_pos_left _ hd
    have hex : (d + 1) * i + (d + 1) = d * (i + 1) + (i + 1) := by rw [← Nat.mul_succ, Nat.add_mul, Nat.one_mul]
    obtain ⟨m1, m2, _⟩ := mlL_law hp (by omega) a1 (hF.lr φ hφ) (by omega)
    have m3 := mlL_lit hp (by omega) a1 (hF.lr φ hφ) (by omega)
    obtain ⟨q1, q2, q3⟩ := dmQ_law hp (by omega) a3.lr (hF.lr φ hφ) (by omega) (by omega) (by omega) (a3.dv φ (by simp))
    obtain ⟨n1, n2, n3⟩ := quo_len hp a3.lr (by omega) (hF.lr φ hφ) (by omega) q1 q3
    obtain ⟨hn1, hn2⟩ := List.nodup_cons.1 a3.nd
    have hsub : ∀ ψ, ψ ∈ I → ψ ∈ Φ := fun ψ h => a3.sub ψ (by simp [h])
    have hdv : ∀ ψ, ψ ∈ I → Dv p (litF ψ) (litF (dmQ p h φ)) := fun ψ hψ => (hF.cop ψ φ (hsub ψ hψ) hφ fun e => hn1 (e ▸ hψ)).cancel q3 (a3.dv ψ (by simp [hψ]))
    have k1 := cop_count (d := d) hp h6 I (dmQ p h φ) q1 n1 (by omega) (fun ψ hψ => ⟨hF.lr ψ (hsub ψ hψ), hF.len ψ (hsub ψ hψ), hdv ψ hψ⟩) (hF.pair hsub hn2)
    have k2 : (dmQ p h φ).length = d * I.length + 1 := by omega
    refine ⟨m1, by rw [Nat.mul_succ]; omega, dmQ p h φ, ⟨hsub, hn2, q1, k2, ?_, hdv⟩, ?_⟩
    · have h9 := a3.one
      rw [List.length_cons, Nat.mul_succ] at h9
      rw [← q3, k2, l1, show d * I.length + 1 + (d + 1) - 2 = d * I.length + d by omega, h9, show d + 1 - 1 = d by omega, hF.one φ hφ, Nat.mul_one, show d * I.length + 1 - 1 = d * I.length by omega, Nat.mod_eq_of_lt (q1.1 _)] at n3
      exact n3.symm
    · rw [a4, m3, mulF_assoc]
      congr 1
      exact funext fun j => by rw [q3, mulF_comm]
theorem acc_all {d : Nat} {hp : Mr.Pr p} {Φ M : List (List Nat)} {f : List Nat} {κ : List Nat → Nat → Nat} (hF : Fam p d hp Φ κ) (h6 : p ≤ 65535) (hd : 1 ≤ d) (hf : FP p d Φ f M) (hl : d * M.length ≤ 60) : accL p M M.length = f := by
  obtain ⟨a1, a2, h, a3, a4⟩ := acc_law hF h6 hd hf hl M.length (Nat.le_refl _)
  rw [List.drop_length] at a3
  have hz : litF h = oneF 1 := funext fun j => by
    have h1 := a3.len
    have h2 := a3.one
    rw [List.length_nil, Nat.mul_zero] at h1 h2
    unfold oneF
    split
    · rename_i e; rw [e, h2]
    · exact litF_end _ j (by omega)
  rw [hz, mulF_one a1.1] at a4
  exact lr_ext a1 hf.lr fun j => (congrFun a4 j).symm
theorem FP.perm {d : Nat} {Φ I M : List (List Nat)} {f : List Nat} (h : FP p d Φ f I) (hM : M.Perm I) : FP p d Φ f M where
  sub φ hφ := h.sub φ (hM.mem_iff.1 hφ)
  nd := hM.nodup_iff.2 h.nd
  lr := h.lr
  len := by rw [hM.length_eq]; exact h.len
  one := by rw [hM.length_eq]; exact h.one
  dv φ hφ := h.dv φ (hM.mem_iff.1 hφ)
end
end Go.Proofs.Ytkklacgoeopekaa
