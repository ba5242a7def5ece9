/- The contracts of made and awake of the law of layer 8; words for its laws. -/
import Derived.Test.YtcnkddoipmaddaaRNew8
import Derived.Test.YtcnkddoipmaddaaPow8
import Derived.Test.YtcnkddoipmaddaaEnc8
namespace Go.Proofs.Ytcnkddoipmaddaa
open Go.RowKit
set_option linter.unusedVariables false

/-- a list and an error of which both are known -/
def RetU8 (w : World) (L : Nat) (E : Int) (G : Nat → Int) (e : Ending) (w' : World) : Prop :=
  Below w.heap.size w w' ∧ ∃ A c, e = .returned (.tuple #[.slice A L c, .int .i64 E]) ∧ Z.Sq .i64 w' w.heap.size w'.heap.size A L G
theorem ret_uni8 (C : Prop) (n : Nat) (F : Nat → Int) : ∃ (L : Nat) (E : Int) (G : Nat → Int), L ≤ n ∧ (C → L = n ∧ E = 0 ∧ G = F) ∧ (¬ C → L = 0 ∧ E = 2 ∧ G = fun _ => 0) ∧ ∀ w e w', RetDc w C n F e w' → RetU8 w L E G e w' := by
  by_cases hC : C
  · refine ⟨n, 0, F, Nat.le_refl _, fun _ => ⟨rfl, rfl, rfl⟩, fun h => absurd hC h, fun w e w' h => ?_⟩
    rcases h with ⟨hb, ⟨h, _⟩ | ⟨_, A, c, rfl, hr⟩⟩
    · exact absurd hC h
    · exact ⟨hb, _, _, rfl, hr⟩
  · refine ⟨0, 2, fun _ => 0, Nat.zero_le _, fun h => absurd h hC, fun _ => ⟨rfl, rfl, rfl⟩, fun w e w' h => ?_⟩
    rcases h with ⟨hb, ⟨_, rfl⟩ | ⟨h, _⟩⟩
    · exact ⟨hb, _, _, rfl, Z.Sq.nil _ _ _ _ _⟩
    · exact absurd h hC

/-- a case in its box -/
structure Cx8 (W : World) (b : Nat) (n : Int) (p : Nat) (r e : Int) (u v : Value) : Prop where
  c0 : W.cell? ⟨b, 0, none⟩ = some (.int .i64 n)
  c1 : W.cell? ⟨b, 1, none⟩ = some (.int .u32 p)
  c2 : W.cell? ⟨b, 2, none⟩ = some (.int .i64 r)
  c3 : W.cell? ⟨b, 3, none⟩ = some (.int .i64 e)
  c4 : W.cell? ⟨b, 4, none⟩ = some u
  c5 : W.cell? ⟨b, 5, none⟩ = some v
  lt : b < W.heap.size
theorem Cx8.below {W W' : World} {b p B : Nat} {n r e : Int} {u v : Value} (h : Cx8 W b n p r e u v) (hb : Below B W W') (hB : b < B) : Cx8 W' b n p r e u v :=
  ⟨(below_c hb hB).trans h.c0, (below_c hb hB).trans h.c1, (below_c hb hB).trans h.c2, (below_c hb hB).trans h.c3, (below_c hb hB).trans h.c4, (below_c hb hB).trans h.c5, Nat.lt_of_lt_of_le h.lt hb.size⟩
theorem Cx8.new (w : World) (n : Int) (p : Nat) (r e : Int) (u v : Value) (t : TypeId) : Cx8 (w.alloc (.cells #[.int .i64 n, .int .u32 p, .int .i64 r, .int .i64 e, u, v] t)) w.heap.size n p r e u v :=
  ⟨by rw [World.cell?_alloc_new]; rfl, by rw [World.cell?_alloc_new]; rfl, by rw [World.cell?_alloc_new]; rfl, by rw [World.cell?_alloc_new]; rfl, by rw [World.cell?_alloc_new]; rfl, by rw [World.cell?_alloc_new]; rfl, by rw [World.size_alloc]; omega⟩

def RetMade8 (w : World) (n : Int) (p : Nat) (r : Int) (e : Ending) (w' : World) : Prop :=
  Below w.heap.size w w' ∧ ((¬ NewOk8 n p r ∧ e = .returned (.tuple #[.pointer none, .pointer none, .bool true])) ∨
    ∃ (k R b x b2 : Nat), n = (k : Int) ∧ r = (R : Int) ∧ NewOk8 n p r ∧ e = .returned (.tuple #[.pointer (some ⟨b, 0, none⟩), .pointer (some ⟨b2, 0, none⟩), .bool true]) ∧ G8 k p R x ∧ Sl w' w.heap.size b k p R x ∧ Rz w' w.heap.size b2 k p R x)
/-- what New returned, opened -/
theorem new8_open {n : Int} {p : Nat} {r : Int} (h : NewOk8 n p r) : ∃ k R : Nat, n = (k : Int) ∧ r = (R : Int) := by
  obtain ⟨h4, ⟨_, h5, _⟩⟩ := h
  exact ⟨n.toNat, r.toNat, by omega, by have := h5.2.2.2.1; omega⟩
theorem Sl.lower {W : World} {lo lo' b n p R x : Nat} (h : Sl W lo b n p R x) (hl : lo' ≤ lo) : Sl W lo' b n p R x := by
  obtain ⟨g, c, h1, h2, h3, h4⟩ := h.pw
  obtain ⟨g', c', h1', h2', h3', h4'⟩ := h.zt
  exact ⟨h.cN, h.cP, ⟨g, c, h1, by omega, h3, h4⟩, ⟨g', c', h1', by omega, h3', h4'⟩, h.ex, by have := h.lob; omega, h.lt⟩
theorem Rz.lower {W : World} {lo lo' b n p R x : Nat} (h : Rz W lo b n p R x) (hl : lo' ≤ lo) : Rz W lo' b n p R x := ⟨h.cN, h.cP, h.cR, h.cX, by have := h.lob; omega, h.lt⟩

set_option maxRecDepth 100000 in
set_option maxHeartbeats 2000000 in
theorem made8_any (n : Int) (p : Nat) (r ee : Int) (u v : Value) (w : World) (hp : p ≤ 4294967295) (hr : r ≤ 9223372036854775807) : Calls Try.prog 13 #[.agg #[.int .i64 n, .int .u32 p, .int .i64 r, .int .i64 ee, u, v]] w (RetMade8 w n p r) := by
  have hcx := Cx8.new w n p r ee u v 25
  have hbl1 : Below w.heap.size w (w.alloc (.cells #[.int .i64 n, .int .u32 p, .int .i64 r, .int .i64 ee, u, v] 25)) := (Below.refl _ w).alloc (Nat.le_refl _) _
  obtain ⟨w1, hw1⟩ : ∃ w1, w1 = w.alloc (.cells #[.int .i64 n, .int .u32 p, .int .i64 r, .int .i64 ee, u, v] 25) := ⟨_, rfl⟩
  rw [← hw1] at hbl1 hcx
  have HW1 := Lib.hid hw1
  have HCX := Lib.hid hcx
  have c0 := hcx.c0
  have c1 := hcx.c1
  have c2 := hcx.c2
  have hz1 := hbl1.size
  clear hw1 hcx
  go_enter Try.func13, Try.ntmps13
  repeat
    fail_if_success rw [← HW1.out]
    go_step
  rw [← HW1.out]
  go_wp2_with fail
  (with_reducible refine (new8_any n p r w1 hp hr).mono ?_)
  rintro e w2 ⟨hb2, hh⟩
  have hb12 := hbl1.trans (hb2.mono hbl1.size)
  have HCX2 := Lib.hid (HCX.out.below hb2 HCX.out.lt)
  clear c0 c1 c2
  have c0 := HCX2.out.c0
  have c1 := HCX2.out.c1
  have c2 := HCX2.out.c2
  rcases hh with ⟨hno, rfl⟩ | ⟨hok, b, x, rfl, hx, hsl⟩
  · have HNO := Lib.hid hno
    clear hno
    go_wp2_with fail
    (with_reducible refine (rnew8_any n p r w2 hp hr).mono ?_)
    rintro e w3 ⟨hb3, hh⟩
    rcases hh with ⟨_, rfl⟩ | ⟨hok, _⟩
    · clear c0 c1 c2
      go_wp2_with fail
      refine bodyPost_ret (v := .tuple #[.pointer none, .pointer none, .bool true]) (by simp [results, Try.f13, go_sem]) rfl ?_
      exact ⟨hb12.trans (hb3.mono hb12.size), .inl ⟨HNO.out, rfl⟩⟩
    · exact absurd hok HNO.out
  · obtain ⟨k, R, rfl, rfl⟩ := new8_open hok
    rw [Int.toNat_natCast, Int.toNat_natCast] at hx hsl
    have hg := g8_of hok hx
    have HOK := Lib.hid hok
    have HG := Lib.hid hg
    have HX := Lib.hid hx
    have HSL := Lib.hid hsl
    clear hok hx hsl hg
    go_wp2_with fail
    (with_reducible refine (rnew8_any (k : Int) p (R : Int) w2 hp hr).mono ?_)
    rintro e w3 ⟨hb3, hh⟩
    rcases hh with ⟨hno, _⟩ | ⟨_, b2, x2, rfl, hx2, hrz⟩
    · exact absurd HOK.out hno
    rw [Int.toNat_natCast, Int.toNat_natCast] at hx2 hrz
    obtain rfl : x = x2 := HX.out.uniq HG.out.R1 (by have := HG.out.nb; omega) HG.out.np hx2
    have HS3 := Lib.hid (HSL.out.below hb3 (Nat.le_refl _))
    have HRZ := Lib.hid hrz
    clear c0 c1 c2 hx2 hrz
    go_wp2_with fail
    refine bodyPost_ret (v := .tuple #[.pointer (some ⟨b, 0, none⟩), .pointer (some ⟨b2, 0, none⟩), .bool true]) (by simp [results, Try.f13, go_sem]) rfl ?_
    exact ⟨hb12.trans (hb3.mono hb12.size), .inr ⟨k, R, b, x, b2, rfl, rfl, HOK.out, rfl, HG.out, HS3.out.lower hz1, HRZ.out.lower hb12.size⟩⟩

theorem aw_pr17 : Mr.Pr 17 := pr_lit (by omega) (by decide)
instance (p a e : Nat) : Decidable (Mr.U p a e) := by unfold Mr.U; infer_instance
theorem aw_least : Least 17 8 2 := by
  refine ⟨ordr_of (by omega) (by decide) fun q hq hd hu => ?_, by omega, fun u hu ho => ?_⟩
  · have h2 := pr_two_pow hq 3 hd
    subst h2
    exact absurd hu (by decide)
  · rcases Nat.lt_or_ge u 2 with h1 | h1
    · exfalso
      have : u = 0 ∨ u = 1 := by omega
      rcases this with rfl | rfl
      · exact absurd ho.2.1 (by decide)
      · have := ho.2.2 1 (by decide)
        exact absurd (Nat.le_of_dvd (by omega) this) (by omega)
    · exact h1
theorem aw8_ok : NewOk8 4 17 1 := ⟨by omega, ⟨⟨.inr (.inl rfl), by omega, by omega, aw_pr17, by omega, by decide⟩, ⟨by omega, by omega, aw_pr17, by omega, by decide⟩, by decide⟩⟩
theorem aw8_x {x : Nat} (h : FrIs 4 17 1 x) : x = 2 := by
  obtain ⟨ψ, hl, _, hlt, hx1, hx2, _⟩ := h
  obtain rfl : 2 = ψ := aw_least.uniq hl
  rw [Nat.pow_one] at hx1
  rw [Nat.mod_eq_of_lt hx1] at hx2
  exact hx2

/-- a written-out list of signed numbers -/
def litZ (l : List Int) : Nat → Int := fun j => l.getD j 0
theorem litZ_out {l : List Int} {j : Nat} (h : l.length ≤ j) : litZ l j = 0 := by unfold litZ; rw [List.getD_eq_getElem?_getD, List.getElem?_eq_none h]; rfl
theorem sq_listZ (k : IntKind) (w : World) (e lo hi : Nat) (l : List Int) (hl : lo ≤ w.heap.size) (hh : w.heap.size < hi) :
    Z.Sq k (w.alloc (.cells (l.map fun (x : Int) => Value.int k x).toArray e)) lo hi (some ⟨w.heap.size, 0, none⟩) l.length (litZ l) :=
  Z.sq_new (litZ l) hl hh (fun j hj => litZ_out hj) fun j hj => by
    rw [List.getElem?_toArray, List.getElem?_map, List.getElem?_eq_getElem hj]
    simp [litZ, hj]
theorem sq_fcongrZ {k : IntKind} {w : World} {lo hi n : Nat} {A : Option Addr} {f g : Nat → Int} (h : Z.Sq k w lo hi A n f) (hz : ∀ j, n ≤ j → g j = 0) (e : ∀ j, j < n → f j = g j) : Z.Sq k w lo hi A n g := by
  refine ⟨hz, fun hn => ?_⟩
  obtain ⟨b, off, e1, h1, h2, h3⟩ := h.2 hn
  exact ⟨b, off, e1, h1, h2, fun j hj => by rw [h3 j hj, e j hj]⟩
/-- Decode of a written-out list -/
theorem dec_lit (w : World) (l b n p R x : Nat) (E : Nat) (L M : List Int) (hg : G8 n p R x) (hs : Sl w l b n p R x) (hL : L.length = n) (hM : M.length = n) (h1 : 1 ≤ E) (h2 : E ≤ R) (hB : Bl (p ^ E) n (litZ L)) (hv : ∀ j, j < n → decF (p ^ E) n x (litZ L) j = litZ M j) :
    Calls Try.prog 16 #[.pointer (some ⟨b, 0, none⟩), .slice (some ⟨w.heap.size, 0, none⟩) L.length L.length, .int .i64 (E : Int)] (w.alloc (.cells (L.map fun (x : Int) => Value.int .i64 x).toArray 2)) (RetU8 w n 0 (litZ M)) := by
  have hb0 := (Below.refl w.heap.size w).alloc (Nat.le_refl _) (.cells (L.map fun (x : Int) => Value.int .i64 x).toArray 2)
  have hn := hg.nb
  refine (decode_any l b n p R x L.length L.length 0 (w.heap.size + 1) (E : Int) _ (litZ L) _ hg (hs.below hb0 (Nat.le_refl _)) (sq_listZ .i64 w 2 0 _ L (Nat.zero_le _) (Nat.lt_succ_self _)) (by omega) (by simp)).mono fun e w' h => ?_
  obtain ⟨hb, h⟩ := h
  rcases h with ⟨hno, _⟩ | ⟨_, A, c, rfl, hsq⟩
  · exact absurd ⟨by omega, by omega, hL, by rw [Int.toNat_natCast]; exact hB⟩ hno
  · rw [Int.toNat_natCast] at hsq
    exact ⟨hb0.trans (hb.mono (by simp)), A, c, rfl, (sq_fcongrZ hsq (fun j hj => litZ_out (by omega)) hv).wide (by simp) (Nat.le_refl _)⟩
theorem enc_lit (w : World) (l b n p R x : Nat) (E : Nat) (L M : List Int) (hg : G8 n p R x) (hs : Sl w l b n p R x) (hL : L.length = n) (hM : M.length = n) (h1 : 1 ≤ E) (h2 : E ≤ R) (hB : Bl (p ^ E) n (litZ L)) (hv : ∀ j, j < n → encF (p ^ E) n x (invN n (p ^ E)) (litZ L) j = litZ M j) :
    Calls Try.prog 15 #[.pointer (some ⟨b, 0, none⟩), .slice (some ⟨w.heap.size, 0, none⟩) L.length L.length, .int .i64 (E : Int)] (w.alloc (.cells (L.map fun (x : Int) => Value.int .i64 x).toArray 2)) (RetU8 w n 0 (litZ M)) := by
  have hb0 := (Below.refl w.heap.size w).alloc (Nat.le_refl _) (.cells (L.map fun (x : Int) => Value.int .i64 x).toArray 2)
  have hn := hg.nb
  refine (encode_any l b n p R x L.length L.length 0 (w.heap.size + 1) (E : Int) _ (litZ L) _ hg (hs.below hb0 (Nat.le_refl _)) (sq_listZ .i64 w 2 0 _ L (Nat.zero_le _) (Nat.lt_succ_self _)) (by omega) (by simp)).mono fun e w' h => ?_
  obtain ⟨hb, h⟩ := h
  rcases h with ⟨hno, _⟩ | ⟨_, A, c, rfl, hsq⟩
  · exact absurd ⟨by omega, by omega, hL, by rw [Int.toNat_natCast]; exact hB⟩ hno
  · rw [Int.toNat_natCast] at hsq
    exact ⟨hb0.trans (hb.mono (by simp)), A, c, rfl, (sq_fcongrZ hsq (fun j hj => litZ_out (by omega)) hv).wide (by simp) (Nat.le_refl _)⟩
/-- a list against a written-out one -/
theorem same_lit (w : World) (A : Option Addr) (n c lo : Nat) (G : Nat → Int) (L : List Int) (h : Z.Sq .i64 w lo w.heap.size A n G) (hn : n ≤ 1000) (hL : L.length = n) (hG : ∀ j, j < n → G j = litZ L j) :
    Calls Try.prog 20 #[.slice A n c, .slice (some ⟨w.heap.size, 0, none⟩) L.length L.length] (w.alloc (.cells (L.map fun (x : Int) => Value.int .i64 x).toArray 2)) (RetV w (.bool true)) := by
  have hb1 := (Below.refl w.heap.size w).alloc (Nat.le_refl _) (.cells (L.map fun (x : Int) => Value.int .i64 x).toArray 2)
  refine (same8_any n L.length c L.length A _ G (litZ L) _ _ _ 0 (w.heap.size + 1) (h.below hb1 (Nat.le_refl _)) (sq_listZ .i64 w 2 0 _ L (Nat.zero_le _) (Nat.lt_succ_self _)) (by omega) (by omega) (by simp) (by simp)).mono fun e w' hh => ?_
  have h2 := hh.yes ⟨hL.symm, hG⟩
  exact ⟨h2.1, hb1.trans (h2.2.mono (by simp))⟩
theorem aw8_facts : (∀ j, j < 4 → decF (17 ^ 1) 4 2 (litZ [0, 1, 0, 0]) j = litZ [2, 8, -8, -2] j) ∧ (∀ j, j < 4 → encF (17 ^ 1) 4 2 (invN 4 (17 ^ 1)) (litZ [2, 8, -8, -2]) j = litZ [0, 1, 0, 0] j) ∧ powN 4 1 false = 3 := by decide +kernel
instance (q n : Nat) (a : Nat → Int) : Decidable (Bl q n a) := by unfold Bl; infer_instance

set_option maxRecDepth 100000 in
set_option maxHeartbeats 1000000 in
theorem awake8_any (w : World) : Calls Try.prog 12 #[] w (RetV w (.bool true)) := by
  have HN := Lib.hid (new8_any 4 17 1 w (by omega) (by omega))
  go_enter Try.func12, Try.ntmps12
  go_wp2_with fail
  refine HN.out.mono ?_
  rintro e w1 ⟨hb1, hh⟩
  have hz1 := hb1.size
  rcases hh with ⟨hno, _⟩ | ⟨_, b, x, rfl, hx, hsl⟩
  · exact absurd aw8_ok hno
  obtain rfl := aw8_x hx
  have HG := Lib.hid (g8_of (n := 4) (p := 17) (r := 1) aw8_ok hx)
  have HS1 := Lib.hid hsl
  clear hx hsl HN
  go_wp2_with fail
  refine (dec_lit w1 _ b 4 17 1 2 1 [0, 1, 0, 0] [2, 8, -8, -2] HG.out HS1.out rfl rfl (by omega) (by omega) (by decide +kernel) aw8_facts.1).mono ?_
  rintro e w2 ⟨hb2, A2, c2, rfl, hsq2⟩
  have hb12 := hb1.trans (hb2.mono hz1)
  have hz2 := hb12.size
  have HS2 := Lib.hid (HS1.out.below hb2 (Nat.le_refl _))
  have HQ2 := Lib.hid hsq2
  clear hsq2
  go_wp2_with fail
  refine (enc_lit w2 _ b 4 17 1 2 1 [2, 8, -8, -2] [0, 1, 0, 0] HG.out HS2.out rfl rfl (by omega) (by omega) (by decide +kernel) aw8_facts.2.1).mono ?_
  rintro e w3 ⟨hb3, A3, c3, rfl, hsq3⟩
  have hb13 := hb12.trans (hb3.mono hz2)
  have hz3 := hb13.size
  have HS3 := Lib.hid (HS2.out.below hb3 (Nat.le_refl _))
  have HQ2' := Lib.hid (HQ2.out.below hb3 (Nat.le_refl _))
  have HQ3 := Lib.hid hsq3
  have HP := Lib.hid (power8_any _ b 4 17 1 2 1 false w3 HS3.out (by omega) (by omega))
  rw [aw8_facts.2.2] at HP
  clear hsq3
  go_wp2_with fail
  refine HP.out.mono ?_
  rintro e w4 ⟨rfl, d, rfl⟩
  have hb14 := below_drewN hb13 d
  have hz4 := hb14.size
  go_wp2_with fail
  refine (same_lit (w3.drewN d) A2 4 c2 _ _ [2, 8, -8, -2] (HQ2'.out.wide (Nat.le_refl _) (show _ ≤ w3.heap.size from hb3.size)) (by omega) rfl (fun _ _ => rfl)).mono ?_
  rintro e w5 ⟨rfl, hb5⟩
  have hb15 := hb14.trans (hb5.mono hz4)
  have hz5 := hb15.size
  go_wp2_with fail
  have HQ35 := Lib.hid ((show Z.Sq .i64 (w3.drewN d) w2.heap.size w3.heap.size A3 4 (litZ [0, 1, 0, 0]) from HQ3.out).below hb5 (Nat.le_refl _))
  refine (same_lit w5 A3 4 c3 _ _ [0, 1, 0, 0] (HQ35.out.wide (Nat.le_refl _) hb5.size) (by omega) rfl (fun _ _ => rfl)).mono ?_
  rintro e w6 ⟨rfl, hb6⟩
  go_wp2_with fail
  go_ret
  exact ⟨rfl, hb15.trans (hb6.mono hz5)⟩
end Go.Proofs.Ytcnkddoipmaddaa
