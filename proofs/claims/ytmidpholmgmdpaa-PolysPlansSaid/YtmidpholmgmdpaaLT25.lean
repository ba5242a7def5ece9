/- The law PolysTables of layer 25. -/
import Derived.Test.YtmidpholmgmdpaaAw25
import Derived.Test.YtmidpholmgmdpaaRT25
namespace Go.Proofs.Ytmidpholmgmdpaa
open Go.RowKit
set_option linter.unusedVariables false

theorem ZOwn.empty {k : IntKind} {w : World} {base e : Nat} (h : base ≤ w.heap.size) : Z.Own k (w.alloc (.cells #[] e)) base e (some ⟨w.heap.size, 0, none⟩) 0 0 (fun _ => 0) :=
  Z.Own.of_row (f := fun _ => 0) (World.rowIs_alloc w #[] e _ fun i hi => absurd hi (Nat.not_lt_zero i)) h (Nat.le_refl _) (Nat.zero_le _) (fun _ _ => rfl) fun j hj => absurd hj (Nat.not_lt_zero j)
open Classical in
/-- what Table returns, without cases -/
theorem tb_uni (p m : Nat) (y : Nat → Int) : ∃ (L : Nat) (E : Int) (G : Nat → Int), L ≤ 256 ∧ L ≤ m ∧ (E = 0 ∨ E = 2 ∨ E = 3) ∧ (E ≠ 0 → L = 0) ∧ (E = 0 → fieldE p = 0 ∧ TbOk p m y ∧ ∃ f, Thr p m (idF m) (resF p m y) L f ∧ G = balF p L f) ∧
    ∀ w e w', RetTb w p m y e w' → Below w.heap.size w w' ∧ ∃ A c, e = .returned (.tuple #[.slice A L c, .int .i64 E]) ∧ Z.Sq .i64 w' w.heap.size w'.heap.size A L G := by
  by_cases hf : fieldE p = 0
  rotate_left
  · have hE : fieldE p = 2 ∨ fieldE p = 3 := by
      unfold fieldE at hf ⊢
      split at hf
      · rename_i h1
        split at hf
        · rename_i h2; rw [if_pos h1, if_pos h2]; exact .inr rfl
        · exact absurd rfl hf
      · rename_i h1; rw [if_neg h1]; exact .inl rfl
    refine ⟨0, fieldE p, fun _ => 0, by omega, by omega, by omega, fun _ => rfl, fun h => absurd h hf, fun w e w' ⟨hb, h⟩ => ⟨hb, ?_⟩⟩
    rcases h with ⟨_, rfl⟩ | ⟨h, _⟩ | ⟨h, _⟩
    · exact ⟨none, 0, rfl, Z.Sq.nil _ _ _ _ _⟩
    · exact absurd h hf
    · exact absurd h hf
  by_cases ht : TbOk p m y
  rotate_left
  · refine ⟨0, 2, fun _ => 0, by omega, by omega, by omega, fun _ => rfl, fun h => absurd h (by decide), fun w e w' ⟨hb, h⟩ => ⟨hb, ?_⟩⟩
    rcases h with ⟨h, _⟩ | ⟨_, _, rfl⟩ | ⟨_, h, _⟩
    · exact absurd hf h
    · exact ⟨none, 0, rfl, Z.Sq.nil _ _ _ _ _⟩
    · exact absurd h ht
  obtain ⟨hp3, hp6, _, hpr⟩ := field_ok hf
  by_cases hx : ∃ k f, Thr p m (idF m) (resF p m y) k f
  · obtain ⟨k, f, hth⟩ := hx
    refine ⟨k, 0, balF p k f, by have := hth.le; have := ht.1; omega, hth.le, .inl rfl, fun h => absurd rfl h, fun _ => ⟨hf, ht, f, hth, rfl⟩, fun w e w' ⟨hb, h⟩ => ⟨hb, ?_⟩⟩
    rcases h with ⟨h, _⟩ | ⟨_, h, _⟩ | ⟨_, _, A, c, k', f', rfl, hth', hsq⟩
    · exact absurd hf h
    · exact absurd ht h
    · obtain ⟨rfl, rfl⟩ := Thr.uniq (by omega) (fun j hj => by unfold idF; rw [if_pos hj]; have := ht.1; omega) (apart_of hpr ht.1) hth' hth
      exact ⟨A, c, rfl, hsq⟩
  · refine ⟨0, 2, fun _ => 0, by omega, by omega, by omega, fun _ => rfl, fun h => absurd h (by decide), fun w e w' ⟨hb, h⟩ => ⟨hb, ?_⟩⟩
    rcases h with ⟨h, _⟩ | ⟨_, h, _⟩ | ⟨_, _, A, c, k', f', rfl, hth', hsq⟩
    · exact absurd hf h
    · exact absurd ht h
    · exact absurd ⟨k', f', hth'⟩ hx

set_option maxRecDepth 100000 in
set_option maxHeartbeats 4000000 in
theorem polysTables_any (p m c : Nat) (A : Option Addr) (y : Nat → Int) (w : World) (hp : p ≤ 4294967295) (hy : Z.Sq .i64 w 0 w.heap.size A m y) (hm : m ≤ 9223372036854775807) :
    Calls Try.prog 3 #[.int .u32 p, .slice A m c] w (RetV w (.bool true)) := by
  obtain ⟨L, E, G, hL, hLm, hE, hE0, _, huni⟩ := tb_uni p m y
  have HU := Lib.hid huni
  have HY := Lib.hid hy
  have HW := Lib.hid (awake25_any w)
  clear huni hy hE hE0
  by_cases hbig : 1000 < m
  · have d1 : decide ((m : Int) > 40) = true := decide_eq_true (by omega)
    have d2 : decide ((m : Int) > 1000) = true := decide_eq_true (by omega)
    by_cases h1 : 64 < p
    · have d3 : decide ((p : Int) > 64) = true := decide_eq_true (by omega)
      by_cases h2 : p ≤ 256
      · have d4 : decide ((p : Int) ≤ 256) = true := decide_eq_true (by omega)
        go_enter Try.func3, Try.ntmps3
        go_wp2_with fail
        refine HW.out.mono ?_
        rintro e w1 ⟨rfl, hb1⟩
        go_wp2_with fail
        go_ret
        exact ⟨rfl, hb1⟩
      · have d4 : decide ((p : Int) ≤ 256) = false := decide_eq_false (by omega)
        go_enter Try.func3, Try.ntmps3
        go_wp2_with fail
        refine HW.out.mono ?_
        rintro e w1 ⟨rfl, hb1⟩
        go_wp2_with fail
        go_ret
        exact ⟨rfl, hb1⟩
    · have d3 : decide ((p : Int) > 64) = false := decide_eq_false (by omega)
      go_enter Try.func3, Try.ntmps3
      go_wp2_with fail
      refine HW.out.mono ?_
      rintro e w1 ⟨rfl, hb1⟩
      go_wp2_with fail
      go_ret
      exact ⟨rfl, hb1⟩
  have d2 : decide ((m : Int) > 1000) = false := decide_eq_false (by omega)
  have d2' : decide (1000 < m) = false := decide_eq_false (by omega)
  have hcase : (64 < p ∧ p ≤ 256 ∧ 40 < m) ∨ (64 < p ∧ p ≤ 256 ∧ m ≤ 40) ∨ (64 < p ∧ 256 < p) ∨ p ≤ 64 := by omega
  rcases hcase with ⟨h1, h2, h3⟩ | ⟨h1, h2, h3⟩ | ⟨h1, h2⟩ | h1
  · have d1 : decide ((m : Int) > 40) = true := decide_eq_true (by omega)
    have d3 : decide ((p : Int) > 64) = true := decide_eq_true (by omega)
    have d4 : decide ((p : Int) ≤ 256) = true := decide_eq_true (by omega)
    go_enter Try.func3, Try.ntmps3
    go_wp2_with fail
    refine HW.out.mono ?_
    rintro e w1 ⟨rfl, hb1⟩
    go_wp2_with fail
    go_ret
    exact ⟨rfl, hb1⟩
  · have d1 : decide ((m : Int) > 40) = false := decide_eq_false (by omega)
    have d3 : decide ((p : Int) > 64) = true := decide_eq_true (by omega)
    have d4 : decide ((p : Int) ≤ 256) = true := decide_eq_true (by omega)
    have HOE : Hid (Z.Own .i64 (w.alloc (.cells #[] 2)) w.heap.size 2 (some ⟨w.heap.size, 0, none⟩) 0 0 (fun _ => 0)) := Lib.hid (ZOwn.empty (Nat.le_refl _))
    have HY1 := Lib.hid (HY.out.below ((Below.refl w.heap.size w).alloc (Nat.le_refl _) (.cells #[] 2)) (Nat.le_refl _))
    have HB0 : Hid (Below w.heap.size w (w.alloc (.cells #[] 2))) := Lib.hid ((Below.refl w.heap.size w).alloc (Nat.le_refl _) _)
    go_enter Try.func3, Try.ntmps3
    go_wp2_with (at_builtin; refine Z.wpl_append rfl _ _ _ rfl e64s' rfl HOE.out rfl HY1.out y (fun j hj => absurd hj (Nat.not_lt_zero j)) (fun j => by rw [Nat.zero_add]) (by unfold maxLen; omega) (by omega) (by simp) ?_; intro A1 c1 w1 hown1 hg1 hb1 hat1)
    have HB1 := Lib.hid (HB0.out.trans hb1)
    have HO1 := Lib.hid hown1
    rw [Nat.zero_add] at HO1
    clear hown1 hg1 hb1 hat1
    have hz1 := HB1.out.size
    have HTB := Lib.hid (table25_any p m c1 A1 y w1 hp (HO1.out.sq (Nat.zero_le _)) hm)
    refine HTB.out.mono ?_
    intro e w2 h2
    obtain ⟨hb2, A2, c2, rfl, hs2⟩ := HU.out _ _ _ h2
    clear h2 HTB
    have hz2 := hb2.size
    have HB2 := Lib.hid (HB1.out.trans (hb2.mono hz1))
    have HS2 := Lib.hid hs2
    have HOW := Lib.hid ((HO1.out.sq (Nat.zero_le _)).below hb2 (Nat.le_refl _))
    have HY2 := Lib.hid (HY.out.below HB2.out (Nat.le_refl _))
    clear hb2 hs2
    have HSM := Lib.hid (same25_any m m c1 c A1 A y y w2 _ _ _ _ HOW.out HY2.out (by omega) (by omega) hz2 (by omega))
    go_wp2_with fail
    refine HSM.out.mono ?_
    rintro e w3 hh3
    obtain ⟨rfl, hb3⟩ := hh3.yes ⟨rfl, fun j _ => rfl⟩
    clear hh3
    have hz3 := hb3.size
    have HB3 := Lib.hid (HB2.out.trans (hb3.mono HB2.out.size))
    have HS3 := Lib.hid (HS2.out.below hb3 (Nat.le_refl _))
    clear hb3
    have HRT := Lib.hid (rtable25_any p m c A y w3 hp ((HY.out.below HB3.out (Nat.le_refl _)).wide (Nat.le_refl _) HB3.out.size) hm)
    go_wp2_with fail
    refine HRT.out.mono ?_
    intro e w4 h4
    obtain ⟨hb4, A4, c4, rfl, hs4⟩ := HU.out _ _ _ h4
    clear h4 HRT
    have hz4 := hb4.size
    have HB4 := Lib.hid (HB3.out.trans (hb4.mono HB3.out.size))
    have HSM2 := Lib.hid (same25_any L L c2 c4 A2 A4 G G w4 _ _ _ _ (HS3.out.below hb4 hz3) hs4 (by omega) (by omega) (by omega) (Nat.le_refl _))
    clear hb4 hs4
    go_wp2_with fail
    refine HSM2.out.mono ?_
    rintro e w5 hh5
    obtain ⟨rfl, hb5⟩ := hh5.yes ⟨rfl, fun j _ => rfl⟩
    clear hh5
    have HB5 := Lib.hid (HB4.out.trans (hb5.mono HB4.out.size))
    clear hb5
    go_wp2_with fail
    refine (awake25_any w5).mono ?_
    rintro e w6 ⟨rfl, hb6⟩
    go_wp2_with fail
    go_ret
    exact ⟨rfl, HB5.out.trans (hb6.mono HB5.out.size)⟩
  · have d3 : decide ((p : Int) > 64) = true := decide_eq_true (by omega)
    have d4 : decide ((p : Int) ≤ 256) = false := decide_eq_false (by omega)
    have HOE : Hid (Z.Own .i64 (w.alloc (.cells #[] 2)) w.heap.size 2 (some ⟨w.heap.size, 0, none⟩) 0 0 (fun _ => 0)) := Lib.hid (ZOwn.empty (Nat.le_refl _))
    have HY1 := Lib.hid (HY.out.below ((Below.refl w.heap.size w).alloc (Nat.le_refl _) (.cells #[] 2)) (Nat.le_refl _))
    have HB0 : Hid (Below w.heap.size w (w.alloc (.cells #[] 2))) := Lib.hid ((Below.refl w.heap.size w).alloc (Nat.le_refl _) _)
    go_enter Try.func3, Try.ntmps3
    go_wp2_with (at_builtin; refine Z.wpl_append rfl _ _ _ rfl e64s' rfl HOE.out rfl HY1.out y (fun j hj => absurd hj (Nat.not_lt_zero j)) (fun j => by rw [Nat.zero_add]) (by unfold maxLen; omega) (by omega) (by simp) ?_; intro A1 c1 w1 hown1 hg1 hb1 hat1)
    have HB1 := Lib.hid (HB0.out.trans hb1)
    have HO1 := Lib.hid hown1
    rw [Nat.zero_add] at HO1
    clear hown1 hg1 hb1 hat1
    have hz1 := HB1.out.size
    have HTB := Lib.hid (table25_any p m c1 A1 y w1 hp (HO1.out.sq (Nat.zero_le _)) hm)
    refine HTB.out.mono ?_
    intro e w2 h2
    obtain ⟨hb2, A2, c2, rfl, hs2⟩ := HU.out _ _ _ h2
    clear h2 HTB
    have hz2 := hb2.size
    have HB2 := Lib.hid (HB1.out.trans (hb2.mono hz1))
    have HS2 := Lib.hid hs2
    have HOW := Lib.hid ((HO1.out.sq (Nat.zero_le _)).below hb2 (Nat.le_refl _))
    have HY2 := Lib.hid (HY.out.below HB2.out (Nat.le_refl _))
    clear hb2 hs2
    have HSM := Lib.hid (same25_any m m c1 c A1 A y y w2 _ _ _ _ HOW.out HY2.out (by omega) (by omega) hz2 (by omega))
    go_wp2_with fail
    refine HSM.out.mono ?_
    rintro e w3 hh3
    obtain ⟨rfl, hb3⟩ := hh3.yes ⟨rfl, fun j _ => rfl⟩
    clear hh3
    have hz3 := hb3.size
    have HB3 := Lib.hid (HB2.out.trans (hb3.mono HB2.out.size))
    have HS3 := Lib.hid (HS2.out.below hb3 (Nat.le_refl _))
    clear hb3
    have HRT := Lib.hid (rtable25_any p m c A y w3 hp ((HY.out.below HB3.out (Nat.le_refl _)).wide (Nat.le_refl _) HB3.out.size) hm)
    go_wp2_with fail
    refine HRT.out.mono ?_
    intro e w4 h4
    obtain ⟨hb4, A4, c4, rfl, hs4⟩ := HU.out _ _ _ h4
    clear h4 HRT
    have hz4 := hb4.size
    have HB4 := Lib.hid (HB3.out.trans (hb4.mono HB3.out.size))
    have HSM2 := Lib.hid (same25_any L L c2 c4 A2 A4 G G w4 _ _ _ _ (HS3.out.below hb4 hz3) hs4 (by omega) (by omega) (by omega) (Nat.le_refl _))
    clear hb4 hs4
    go_wp2_with fail
    refine HSM2.out.mono ?_
    rintro e w5 hh5
    obtain ⟨rfl, hb5⟩ := hh5.yes ⟨rfl, fun j _ => rfl⟩
    clear hh5
    have HB5 := Lib.hid (HB4.out.trans (hb5.mono HB4.out.size))
    clear hb5
    go_wp2_with fail
    refine (awake25_any w5).mono ?_
    rintro e w6 ⟨rfl, hb6⟩
    go_wp2_with fail
    go_ret
    exact ⟨rfl, HB5.out.trans (hb6.mono HB5.out.size)⟩
  · have d3 : decide ((p : Int) > 64) = false := decide_eq_false (by omega)
    have HOE : Hid (Z.Own .i64 (w.alloc (.cells #[] 2)) w.heap.size 2 (some ⟨w.heap.size, 0, none⟩) 0 0 (fun _ => 0)) := Lib.hid (ZOwn.empty (Nat.le_refl _))
    have HY1 := Lib.hid (HY.out.below ((Below.refl w.heap.size w).alloc (Nat.le_refl _) (.cells #[] 2)) (Nat.le_refl _))
    have HB0 : Hid (Below w.heap.size w (w.alloc (.cells #[] 2))) := Lib.hid ((Below.refl w.heap.size w).alloc (Nat.le_refl _) _)
    go_enter Try.func3, Try.ntmps3
    go_wp2_with (at_builtin; refine Z.wpl_append rfl _ _ _ rfl e64s' rfl HOE.out rfl HY1.out y (fun j hj => absurd hj (Nat.not_lt_zero j)) (fun j => by rw [Nat.zero_add]) (by unfold maxLen; omega) (by omega) (by simp) ?_; intro A1 c1 w1 hown1 hg1 hb1 hat1)
    have HB1 := Lib.hid (HB0.out.trans hb1)
    have HO1 := Lib.hid hown1
    rw [Nat.zero_add] at HO1
    clear hown1 hg1 hb1 hat1
    have hz1 := HB1.out.size
    have HTB := Lib.hid (table25_any p m c1 A1 y w1 hp (HO1.out.sq (Nat.zero_le _)) hm)
    refine HTB.out.mono ?_
    intro e w2 h2
    obtain ⟨hb2, A2, c2, rfl, hs2⟩ := HU.out _ _ _ h2
    clear h2 HTB
    have hz2 := hb2.size
    have HB2 := Lib.hid (HB1.out.trans (hb2.mono hz1))
    have HS2 := Lib.hid hs2
    have HOW := Lib.hid ((HO1.out.sq (Nat.zero_le _)).below hb2 (Nat.le_refl _))
    have HY2 := Lib.hid (HY.out.below HB2.out (Nat.le_refl _))
    clear hb2 hs2
    have HSM := Lib.hid (same25_any m m c1 c A1 A y y w2 _ _ _ _ HOW.out HY2.out (by omega) (by omega) hz2 (by omega))
    go_wp2_with fail
    refine HSM.out.mono ?_
    rintro e w3 hh3
    obtain ⟨rfl, hb3⟩ := hh3.yes ⟨rfl, fun j _ => rfl⟩
    clear hh3
    have hz3 := hb3.size
    have HB3 := Lib.hid (HB2.out.trans (hb3.mono HB2.out.size))
    have HS3 := Lib.hid (HS2.out.below hb3 (Nat.le_refl _))
    clear hb3
    have HRT := Lib.hid (rtable25_any p m c A y w3 hp ((HY.out.below HB3.out (Nat.le_refl _)).wide (Nat.le_refl _) HB3.out.size) hm)
    go_wp2_with fail
    refine HRT.out.mono ?_
    intro e w4 h4
    obtain ⟨hb4, A4, c4, rfl, hs4⟩ := HU.out _ _ _ h4
    clear h4 HRT
    have hz4 := hb4.size
    have HB4 := Lib.hid (HB3.out.trans (hb4.mono HB3.out.size))
    have HSM2 := Lib.hid (same25_any L L c2 c4 A2 A4 G G w4 _ _ _ _ (HS3.out.below hb4 hz3) hs4 (by omega) (by omega) (by omega) (Nat.le_refl _))
    clear hb4 hs4
    go_wp2_with fail
    refine HSM2.out.mono ?_
    rintro e w5 hh5
    obtain ⟨rfl, hb5⟩ := hh5.yes ⟨rfl, fun j _ => rfl⟩
    clear hh5
    have HB5 := Lib.hid (HB4.out.trans (hb5.mono HB4.out.size))
    clear hb5
    go_wp2_with fail
    refine (awake25_any w5).mono ?_
    rintro e w6 ⟨rfl, hb6⟩
    go_wp2_with fail
    go_ret
    exact ⟨rfl, HB5.out.trans (hb6.mono HB5.out.size)⟩
end Go.Proofs.Ytmidpholmgmdpaa
