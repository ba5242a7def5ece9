/- The contracts of the laws' own made and awake of layer 6. -/
import Derived.Test.YtbajapjaejpcjaaRMul6
import Derived.Test.YtbajapjaejpcjaaMul6
import Derived.Test.YtbajapjaejpcjaaLit
namespace Go.Proofs.Ytbajapjaejpcjaa
open Go.RowKit
set_option linter.unusedVariables false
/-- what New returned, opened -/
theorem new_open {w w' : World} {n q : Nat} {p : Value} (h : NewOk (n : Int) q) (ht : IsTab w' w.heap.size n q p) : ∃ b ψ s : Nat, p = .pointer (some ⟨b, 0, none⟩) ∧ w.heap.size ≤ b ∧ Good n q ψ s ∧ Tb w' b n q (pwF q n ψ) s ∧ Least q (2 * n) ψ := by
  obtain ⟨b, ψ, s, rfl, h1, h2, h3, h4, h5⟩ := ht
  obtain ⟨hd, hq31, hpr, _⟩ := h
  unfold dim6 at hd
  exact ⟨b, ψ, s, rfl, h1, ⟨by omega, ⟨hpr, by omega, h2.1⟩, hq31, h3, h4, h2.2.1⟩, h5, h2⟩
def RetMade (w : World) (n : Int) (q : Nat) (e : Ending) (w' : World) : Prop :=
  Below w.heap.size w w' ∧ ((¬ NewOk n q ∧ e = .returned (.tuple #[.pointer none, .pointer none, .bool true])) ∨
    ∃ (k b ψ s b2 : Nat), n = (k : Int) ∧ NewOk n q ∧ e = .returned (.tuple #[.pointer (some ⟨b, 0, none⟩), .pointer (some ⟨b2, 0, none⟩), .bool true]) ∧ w.heap.size ≤ b ∧ w.heap.size ≤ b2 ∧ Good k q ψ s ∧ Tb w' b k q (pwF q k ψ) s ∧ Rb w' b2 k q ψ)

set_option maxRecDepth 100000 in
set_option maxHeartbeats 2000000 in
theorem made_any (n : Int) (q : Nat) (u v : Value) (w : World) (hq : q ≤ 4294967295) : Calls Try.prog 11 #[.agg #[.int .i64 n, .int .u32 q, u, v]] w (RetMade w n q) := by
  have hbl1 : Below w.heap.size w (w.alloc (.cells #[.int .i64 n, .int .u32 q, u, v] 29)) := (Below.refl _ w).alloc (Nat.le_refl _) _
  have c0 : (w.alloc (.cells #[.int .i64 n, .int .u32 q, u, v] 29)).cell? ⟨w.heap.size, 0, none⟩ = some (.int .i64 n) := by rw [World.cell?_alloc_new]; rfl
  have c1 : (w.alloc (.cells #[.int .i64 n, .int .u32 q, u, v] 29)).cell? ⟨w.heap.size, 1, none⟩ = some (.int .u32 q) := by rw [World.cell?_alloc_new]; rfl
  have hz1 : (w.alloc (.cells #[.int .i64 n, .int .u32 q, u, v] 29)).heap.size = w.heap.size + 1 := World.size_alloc _ _
  obtain ⟨w1, hw1⟩ : ∃ w1, w1 = w.alloc (.cells #[.int .i64 n, .int .u32 q, u, v] 29) := ⟨_, rfl⟩
  rw [← hw1] at hbl1 c0 c1 hz1
  have HW1 := Lib.hid hw1
  have HZ1 := Lib.hid hz1
  clear hw1 hz1
  go_enter Try.func11, Try.ntmps11
  repeat
    fail_if_success rw [← HW1.out]
    go_step
  rw [← HW1.out]
  go_wp2_with fail
  (with_reducible refine (new_any n q w1 hq).mono ?_)
  rintro e w2 ⟨hb2, hh⟩
  have hb12 := hbl1.trans (hb2.mono hbl1.size)
  have c0 := (hb2.cell (p := ⟨w.heap.size, 0, none⟩) (by show w.heap.size < _; have := HZ1.out; omega)).trans c0
  have c1 := (hb2.cell (p := ⟨w.heap.size, 1, none⟩) (by show w.heap.size < _; have := HZ1.out; omega)).trans c1
  rcases hh with ⟨hno, rfl⟩ | ⟨hok, p, rfl, ht⟩
  · have HNO := Lib.hid hno
    clear hno
    go_wp2_with fail
    (with_reducible refine (rnew_any n q w2 hq).mono ?_)
    rintro e w3 ⟨hb3, hh⟩
    rcases hh with ⟨_, rfl⟩ | ⟨hok, _⟩
    · clear c0 c1
      go_wp2_with fail
      go_quiet (fail)
      go_wp2
      refine bodyPost_ret (v := .tuple #[.pointer none, .pointer none, .bool true]) (by simp [results, Try.f11, go_sem]) rfl ?_
      exact ⟨below_drewN (hb12.trans (hb3.mono hb12.size)) _, .inl ⟨HNO.out, rfl⟩⟩
    · exact absurd hok HNO.out
  · obtain ⟨k, rfl, _⟩ : ∃ k : Nat, n = (k : Int) ∧ True := by
      have := hok.1
      unfold dim6 at this
      exact ⟨n.toNat, by omega, trivial⟩
    rw [Int.toNat_natCast] at ht
    obtain ⟨b, ψ, s, rfl, hbg, hgood, htb, hle⟩ := new_open hok ht
    have HOK := Lib.hid hok
    have HG := Lib.hid hgood
    have HTB := Lib.hid htb
    have HLE := Lib.hid hle
    clear hok ht hgood htb hle
    go_wp2_with fail
    (with_reducible refine (rnew_any (k : Int) q w2 hq).mono ?_)
    rintro e w3 ⟨hb3, hh⟩
    rcases hh with ⟨hno, _⟩ | ⟨_, b2, ψ2, rfl, hbg2, hle2, hrb⟩
    · exact absurd HOK.out hno
    rw [Int.toNat_natCast] at hle2 hrb
    obtain rfl : ψ = ψ2 := HLE.out.uniq hle2
    have hT3 := HTB.out.below hb3 HTB.out.lt
    have hR := fun d => troot_yes b k q s (pwF q k ψ) (w3.drewN d) ⟨hT3.cN, hT3.cQ, hT3.cP, hT3.cS, hT3.lt⟩ (by have := HG.out.nb; omega)
    rw [show pwF q k ψ 1 = ψ by
      unfold pwF
      have := HG.out.nb
      rw [if_pos (by omega), Nat.pow_one, Nat.mod_eq_of_lt HG.out.psi]] at hR
    have HRT := Lib.hid hR
    have hcp := hrb.cP
    have HT3 := Lib.hid hT3
    have HRB := Lib.hid hrb
    clear c0 c1 hR hT3 hrb hle2
    go_wp2_with fail
    go_quiet ((exact (HRT.out _).mono fun e w' hh => ⟨hh.1, _, hh.2.symm⟩))
    go_wp2
    refine bodyPost_ret (v := .tuple #[.pointer (some ⟨b, 0, none⟩), .pointer (some ⟨b2, 0, none⟩), .bool true]) (by simp [results, Try.f11, go_sem]) rfl ?_
    have hz2 := hb12.size
    have hz3 := hb2.size
    exact ⟨below_drewN (hb12.trans (hb3.mono hb12.size)) _, .inr ⟨k, b, ψ, s, b2, rfl, HOK.out, rfl, by have := HZ1.out; omega, by omega, HG.out, ⟨HT3.out.cN, HT3.out.cQ, HT3.out.cP, HT3.out.cS, HT3.out.lt⟩, ⟨HRB.out.cN, HRB.out.cQ, HRB.out.cP, HRB.out.lt⟩⟩⟩
theorem aw_pr17 : Mr.Pr 17 := pr_lit (by omega) (by decide)
instance (p a e : Nat) : Decidable (Mr.U p a e) := by unfold Mr.U; infer_instance
theorem aw_least : Least 17 8 2 := by
  refine ⟨ordr_of (by omega) (by decide) fun q hq hd hu => ?_, by omega, fun u hu ho => ?_⟩
  · have h2 := pr_two_pow hq 3 hd
    subst h2
    exact absurd hu (by decide)
  · rcases Nat.lt_or_ge u 2 with h1 | h1
    · exfalso
      have : u = 0 ∨ u = 1 := by omega
      rcases this with rfl | rfl
      · exact absurd ho.2.1 (by decide)
      · have := ho.2.2 1 (by decide)
        exact absurd (Nat.le_of_dvd (by omega) this) (by omega)
    · exact h1
theorem aw_ok : NewOk 4 17 := ⟨.inr (.inl rfl), by omega, aw_pr17, by decide⟩

theorem litF_le {l : List Nat} {B : Nat} (h : ∀ x ∈ l, x ≤ B) (j : Nat) : litF l j ≤ B := by
  unfold litF
  rw [List.getD_eq_getElem?_getD]
  cases hj : l[j]? with
  | none => exact Nat.zero_le _
  | some x => exact h x (List.mem_of_getElem? hj)
theorem row_same (w : World) (b c' : Nat) (F : Nat → Nat) (l : List Nat) (cs : Array Value) (hl : l.length ≤ 1000) (h : w.rowIs b 22 l.length (ku .u32 F)) (hF : ∀ j, j < l.length → F j = litF l j) (hcs : cs = (l.map fun (x : Nat) => Value.int .u32 (x : Int)).toArray) (W : World)
    (hW : W = w.alloc (.cells cs 22)) :
    Calls Try.prog 19 #[.slice (some ⟨b, 0, none⟩) l.length c', .slice (some ⟨w.heap.size, 0, none⟩) l.length l.length] W (RetV w (.bool true)) := by
  subst hcs
  subst hW
  have hb1 := (Below.refl w.heap.size w).alloc (Nat.le_refl _) (.cells (l.map fun (x : Nat) => Value.int .u32 (x : Int)).toArray 22)
  have hsq : Sq .u32 w 0 w.heap.size (some ⟨b, 0, none⟩) l.length (litF l) := Sq.of_row h (Nat.le_refl _) (Nat.zero_le _) h.lt (fun j hj => litF_out hj) hF
  have hs := same_any l.length l.length c' l.length (some ⟨b, 0, none⟩) (some ⟨w.heap.size, 0, none⟩) (litF l) (litF l) _ 0 _ 0 (w.heap.size + 1) (hsq.below hb1 (Nat.le_refl _)) (sq_list .u32 w 22 0 (w.heap.size + 1) l (Nat.zero_le _) (Nat.lt_succ_self _)) (by omega) (by omega) (by simp) (by simp)
  rw [sameB_refl] at hs
  exact hs.mono fun e w' h => ⟨h.1, hb1.trans (h.2.mono (by simp))⟩
def AwF (w : World) (F : List Nat) (e : Ending) (w' : World) : Prop := ∃ b', e = .returned (.tuple #[.slice (some ⟨b', 0, none⟩) 4 4, .int .i64 0]) ∧ w.heap.size ≤ b' ∧ w'.rowIs b' 22 4 (ku .u32 (litF F)) ∧ Below w.heap.size w w'
theorem aw_fwd (w : World) (b s : Nat) (hg : Good 4 17 2 s) (ht : Tb w b 4 17 (pwF 17 4 2) s) :
    Calls Try.prog 14 #[.pointer (some ⟨b, 0, none⟩), .slice (some ⟨w.heap.size, 0, none⟩) 4 4] (w.alloc (.cells #[.int .u32 0, .int .u32 1, .int .u32 0, .int .u32 0] 22)) (AwF w [2, 8, 15, 9]) := by
  have s1 : Sq .u32 (w.alloc (.cells #[.int .u32 0, .int .u32 1, .int .u32 0, .int .u32 0] 22)) 0 (w.heap.size + 1) (some ⟨w.heap.size, 0, none⟩) 4 (litF [0, 1, 0, 0]) := sq_list .u32 w 22 0 _ [0, 1, 0, 0] (Nat.zero_le _) (Nat.lt_succ_self _)
  have hb0 := (Below.refl w.heap.size w).alloc (Nat.le_refl _) (.cells #[.int .u32 0, .int .u32 1, .int .u32 0, .int .u32 0] 22)
  refine (forward_any b 4 17 2 s 4 4 0 (w.heap.size + 1) _ (litF [0, 1, 0, 0]) _ hg (ht.below hb0 ht.lt) s1 (by omega) (litF_le (by decide)) (by simp)).mono fun e w' h => ?_
  obtain ⟨hb, h⟩ := h
  rcases h with ⟨hno, _⟩ | ⟨_, b', rfl, h1, h2⟩
  · exact absurd ⟨rfl, fun j hj => by have := litF_le (l := [0, 1, 0, 0]) (B := 16) (by decide) j; omega⟩ hno
  · refine ⟨b', rfl, by simp at h1; omega, h2.congr fun j hj => ?_, hb0.trans (hb.mono (by simp))⟩
    simp only [ku]
    have e1 : sameB 4 (fwd 17 4 2 (litF [0, 1, 0, 0])) 4 (litF [2, 8, 15, 9]) = true := by decide +kernel
    rw [(sameB_true.1 e1).2 j hj]
theorem aw_mul (w : World) (b s : Nat) (hg : Good 4 17 2 s) (ht : Tb w b 4 17 (pwF 17 4 2) s) :
    Calls Try.prog 20 #[.pointer (some ⟨b, 0, none⟩), .slice (some ⟨w.heap.size, 0, none⟩) 4 4, .slice (some ⟨w.heap.size + 1, 0, none⟩) 4 4]
      ((w.alloc (.cells #[.int .u32 0, .int .u32 1, .int .u32 0, .int .u32 0] 22)).alloc (.cells #[.int .u32 0, .int .u32 0, .int .u32 0, .int .u32 1] 22)) (AwF w [16, 0, 0, 0]) := by
  have s1 : Sq .u32 (w.alloc (.cells #[.int .u32 0, .int .u32 1, .int .u32 0, .int .u32 0] 22)) 0 (w.heap.size + 1) (some ⟨w.heap.size, 0, none⟩) 4 (litF [0, 1, 0, 0]) := sq_list .u32 w 22 0 _ [0, 1, 0, 0] (Nat.zero_le _) (Nat.lt_succ_self _)
  have hb0 := (Below.refl w.heap.size w).alloc (Nat.le_refl _) (.cells #[.int .u32 0, .int .u32 1, .int .u32 0, .int .u32 0] 22)
  have hz : (w.alloc (.cells #[.int .u32 0, .int .u32 1, .int .u32 0, .int .u32 0] 22)).heap.size = w.heap.size + 1 := by simp
  generalize (w.alloc (.cells #[.int .u32 0, .int .u32 1, .int .u32 0, .int .u32 0] 22)) = W at *
  have s2 : Sq .u32 (W.alloc (.cells #[.int .u32 0, .int .u32 0, .int .u32 0, .int .u32 1] 22)) 0 (W.heap.size + 1) (some ⟨W.heap.size, 0, none⟩) 4 (litF [0, 0, 0, 1]) := sq_list .u32 W 22 0 _ [0, 0, 0, 1] (Nat.zero_le _) (Nat.lt_succ_self _)
  have hb1 := (Below.refl W.heap.size W).alloc (Nat.le_refl _) (.cells #[.int .u32 0, .int .u32 0, .int .u32 0, .int .u32 1] 22)
  have s1' := s1.below hb1 (by omega)
  rw [hz] at s2
  have ht2 := (ht.below hb0 ht.lt).below hb1 (by have := ht.lt; omega)
  refine (tmul_any b 4 17 2 s 4 4 4 4 0 (w.heap.size + 1) 0 (w.heap.size + 1 + 1) _ _ (litF [0, 1, 0, 0]) (litF [0, 0, 0, 1]) _ hg ht2 s1' s2 (by omega) (by omega) (litF_le (by decide)) (litF_le (by decide)) (by simp; omega) (by simp; omega)).mono fun e w' h => ?_
  obtain ⟨hb, h⟩ := h
  rcases h with ⟨hno, _⟩ | ⟨_, b', rfl, h1, h2⟩
  · exact absurd ⟨⟨rfl, fun j hj => by have := litF_le (l := [0, 1, 0, 0]) (B := 16) (by decide) j; omega⟩, ⟨rfl, fun j hj => by have := litF_le (l := [0, 0, 0, 1]) (B := 16) (by decide) j; omega⟩⟩ hno
  · refine ⟨b', rfl, by simp at h1; omega, h2.congr fun j hj => ?_, hb0.trans ((hb1.trans (hb.mono (by simp))).mono (by omega))⟩
    simp only [ku]
    have e1 : sameB 4 (prF 17 4 (litF [0, 1, 0, 0]) (litF [0, 0, 0, 1])) 4 (litF [16, 0, 0, 0]) = true := by decide +kernel
    rw [(sameB_true.1 e1).2 j hj]

set_option maxRecDepth 100000 in
set_option maxHeartbeats 1000000 in
theorem awake_any (w : World) : Calls Try.prog 12 #[] w (RetV w (.bool true)) := by
  have HN := Lib.hid (new_any 4 17 w (by omega))
  go_enter Try.func12, Try.ntmps12
  go_wp2_with fail
  refine HN.out.mono ?_
  rintro e w1 ⟨hb1, hh⟩
  have hz1 := hb1.size
  rcases hh with ⟨hno, _⟩ | ⟨_, p, rfl, ht⟩
  · exact absurd aw_ok hno
  obtain ⟨b, ψ, s, rfl, hbg, hgood, htb, hle⟩ := new_open (n := 4) aw_ok ht
  obtain rfl : 2 = ψ := aw_least.uniq hle
  have HG := Lib.hid hgood
  have HTB := Lib.hid htb
  have HRT := Lib.hid (troot_yes b 4 17 s (pwF 17 4 2) w1 htb (by omega))
  rw [show pwF 17 4 2 1 = 2 by decide] at HRT
  clear ht hgood htb hle HN
  go_wp2_with fail
  refine HRT.out.mono ?_
  rintro e w2 ⟨rfl, hw2⟩
  subst hw2
  go_wp2_with fail
  (with_reducible refine (aw_fwd w1 b s HG.out HTB.out).mono ?_)
  rintro e w3 ⟨b3, rfl, hbg3, hr3, hb3⟩
  have hz3 := hb3.size
  have HR3 := Lib.hid hr3
  have HTB3 := Lib.hid (HTB.out.below hb3 HTB.out.lt)
  have hb13 := hb1.trans (hb3.mono hz1)
  clear hr3
  go_wp2_with fail
  (with_reducible refine (aw_mul w3 b s HG.out HTB3.out).mono ?_)
  rintro e w4 ⟨b4, rfl, hbg4, hr4, hb4⟩
  have hz4 := hb4.size
  have HR4 := Lib.hid hr4
  have HR34 := Lib.hid (rowIs_below HR3.out hb4 HR3.out.lt)
  have hb14 := hb13.trans (hb4.mono hb13.size)
  clear hr4
  go_wp2_with fail
  refine (row_same w4 b3 4 _ [2, 8, 15, 9] _ (by decide) HR34.out (fun _ _ => rfl) rfl _ rfl).mono ?_
  rintro e w5 ⟨rfl, hb5⟩
  have hz5 := hb5.size
  have HR45 := Lib.hid (rowIs_below HR4.out hb5 HR4.out.lt)
  have hb15 := hb14.trans (hb5.mono hb14.size)
  go_wp2_with fail
  refine (row_same w5 b4 4 _ [16, 0, 0, 0] _ (by decide) HR45.out (fun _ _ => rfl) rfl _ rfl).mono ?_
  rintro e w6 ⟨rfl, hb6⟩
  go_wp2_with fail
  go_ret
  exact ⟨rfl, hb15.trans (hb6.mono hb15.size)⟩
end Go.Proofs.Ytbajapjaejpcjaa
