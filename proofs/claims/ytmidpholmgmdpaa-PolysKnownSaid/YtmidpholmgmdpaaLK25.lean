/- The law PolysKnown of layer 25: the examples of the document. -/
import Derived.Test.YtmidpholmgmdpaaPk25
import Derived.Test.YtmidpholmgmdpaaEq25
import Derived.Test.YtmidpholmgmdpaaAw25
namespace Go.Proofs.Ytmidpholmgmdpaa
open Go.RowKit
set_option linter.unusedVariables false

/-- an example of Equal or Less in the field of five elements -/
theorem cp_known {w w' : World} {ok : Prop} {y : Nat → Int} {e : Ending} {K : Nat} {F : Nat → Nat} (h : RetCp w 5 ok y e w') (hok : ok) (hF : Thr 5 5 (idF 5) (resF 5 5 y) K F) : Below w.heap.size w w' ∧ ∃ A c, e = .returned (.tuple #[.slice A K c, .int .i64 0]) ∧ Z.Sq .i64 w' w.heap.size w'.heap.size A K (balF 5 K F) := by
  obtain ⟨hb, h⟩ := h
  refine ⟨hb, ?_⟩
  rcases h with ⟨h1, _⟩ | ⟨_, h1, _⟩ | ⟨_, _, A, c, k, f, rfl, hth, hsq⟩
  · exact absurd field5 h1
  · exact absurd hok h1
  · obtain ⟨rfl, rfl⟩ := Thr.uniq (by omega) (fun j hj => by unfold idF; rw [if_pos hj]; exact hj) (apart_of pr5 (Nat.le_refl _)) hth hF
    exact ⟨A, c, rfl, hsq⟩
def knF : Nat → Nat := fun j => if j = 0 then 1 else if j = 4 then 4 else 0
theorem kn1 : Thr 5 5 (idF 5) (resF 5 5 (stF 0 1)) 5 knF where
  rs := ⟨fun j => by unfold knF; split; omega; split <;> omega, fun j hj => by unfold knF; rw [if_neg (by omega), if_neg (by omega)]⟩
  le := by omega
  to := by decide
  vo := fun t ht => by
    have h : t = 0 ∨ t = 1 ∨ t = 2 ∨ t = 3 ∨ t = 4 := by omega
    rcases h with rfl | rfl | rfl | rfl | rfl <;> decide
theorem kn0 : Thr 5 5 (idF 5) (resF 5 5 (stF 0 0)) 0 (fun _ => 0) where
  rs := ⟨fun j => by show (0 : Nat) < 5; omega, fun j hj => rfl⟩
  le := by omega
  to := by decide
  vo := fun t ht => by
    have h : t = 0 ∨ t = 1 ∨ t = 2 ∨ t = 3 ∨ t = 4 := by omega
    rcases h with rfl | rfl | rfl | rfl | rfl <;> decide
theorem kn5 : Thr 5 5 (idF 5) (resF 5 5 (stF 0 5)) 1 (fun j => if j = 0 then 1 else 0) where
  rs := ⟨fun j => by show (if j = 0 then 1 else 0) < 5; split <;> omega, fun j hj => if_neg (by omega)⟩
  le := by omega
  to := by decide
  vo := fun t ht => by
    have h : t = 0 ∨ t = 1 ∨ t = 2 ∨ t = 3 ∨ t = 4 := by omega
    rcases h with rfl | rfl | rfl | rfl | rfl <;> decide
theorem kn_bal : ∀ j, balF 5 5 knF j = zl [1, 0, 0, 0, -1] j := fun j => by
  rcases (by omega : j = 0 ∨ j = 1 ∨ j = 2 ∨ j = 3 ∨ j = 4 ∨ 5 ≤ j) with rfl | rfl | rfl | rfl | rfl | h
  · decide
  · decide
  · decide
  · decide
  · decide
  · unfold balF zl
    rw [if_neg (by omega), List.getD_eq_getElem?_getD, List.getElem?_eq_none h]
    rfl
theorem kn_bal5 : ∀ j, balF 5 1 (fun j => if j = 0 then 1 else 0) j = zl [1] j := fun j => by
  rcases (by omega : j = 0 ∨ 1 ≤ j) with rfl | h
  · decide
  · unfold balF zl
    rw [if_neg (by omega), List.getD_eq_getElem?_getD, List.getElem?_eq_none h]
    rfl
def p17 : Nat → Int := fun j => if j = 17 then 1 else 0
def p16 : Nat → Int := fun j => if j = 16 then 1 else if j = 1 then 1 else 0
theorem b17 (x : Int) (h : x = 0 ∨ x = 1) : balB 17 x = true := by
  rcases h with rfl | rfl <;> decide
theorem p17_ok : PolyOk 17 18 p17 := ⟨fun i _ => b17 _ (by unfold p17; split; exact .inr rfl; exact .inl rfl), fun _ => by decide⟩
theorem p16_ok : PolyOk 17 17 p16 := ⟨fun i _ => b17 _ (by unfold p16; split; exact .inr rfl; split; exact .inr rfl; exact .inl rfl), fun _ => by decide⟩
theorem p17_e : polyE 17 18 p17 = 0 := by unfold polyE; rw [if_pos aw_modB, if_neg (by omega), if_pos p17_ok]
theorem p16_e : polyE 17 17 p16 = 0 := by unfold polyE; rw [if_pos aw_modB, if_neg (by omega), if_pos p16_ok]
theorem dep_eq {m k : Nat} {a : Nat → Int} {σ : MSt} (h : MkLaw 17 m a σ) (hk : m - 1 ≤ 2 ^ (k + 1)) (hk2 : 2 ^ k < m - 1) (ha : a (m - 1) ≠ 0) : depV 17 σ.n σ.s = ((k + 1 : Nat) : Int) ∧ chkE 17 σ.n σ.s = 0 := by
  have hc := h.chk aw_modB
  refine ⟨?_, hc⟩
  unfold depV
  rw [if_pos hc]
  have h1 := h.dep (k + 1) hk
  have h0 := depD_bound h.ok σ.n (Nat.le_refl _)
  have h2 : ¬ (depD σ.s σ.n).toNat ≤ k := fun hle => by
    have h3 := Nat.pow_le_pow_right (show 0 < 2 by omega) hle
    have h4 := plD_deg h.ok σ.n (Nat.le_refl _) (m - 1) (by omega)
    rw [h.pl] at h4
    exact ha h4
  omega
theorem kn_make {w w' : World} {e : Ending} {m : Nat} {a : Nat → Int} (h : RetMake w 17 m a e w') (he : polyE 17 m a = 0) (hm : m ≤ 256) (hz : ∀ j, m ≤ j → a j = 0) (hok : PolyOk 17 m a) : Below w.heap.size w w' ∧ ∃ σ A c, MkLaw 17 m a σ ∧ e = .returned (.tuple #[.slice A σ.n c, .int .i64 0]) ∧ Pln w' w'.heap.size A σ.n σ.s := by
  obtain ⟨hb, h⟩ := h
  refine ⟨hb, ?_⟩
  rcases h with ⟨h, _⟩ | ⟨_, σ, A, c, hmr, rfl, hpl⟩
  · exact absurd he h
  · exact ⟨σ, A, c, hmr.law (by omega) hm hz hok, rfl, hpl⟩
def badS : Nat → PS := fun _ => ⟨true, 0, 1, 0, 0, fun _ => 0⟩
theorem kn_chk : chkE 17 1 badS = 2 := by
  unfold chkE
  rw [if_pos aw_modB, if_neg (by omega), if_neg]
  intro h
  have := h 0 (by omega)
  unfold stepOk at this
  rw [if_pos (show (badS 0).mul = true from rfl)] at this
  have h2 : (1 : Int) < ((0 + 1 : Nat) : Int) := this.1.2.2.2
  omega
theorem kn_run : runV 17 0 badS (-8) = -8 ∧ runE 17 0 badS (-8) = 0 := by
  have hb : balB 17 (-8) = true := by decide
  have hc : chkE 17 0 badS = 0 := by
    unfold chkE
    rw [if_pos aw_modB, if_neg (by omega), if_pos]
    exact fun i hi => absurd hi (Nat.not_lt_zero i)
  exact ⟨by unfold runV; rw [if_pos ⟨hc, hb⟩]; rfl, by unfold runE; rw [if_pos hc, if_pos hb]⟩
theorem kn_pln {w : World} : Pln (w.alloc (.cells #[.bool true, .int .i64 0, .int .i64 1, .int .i64 0, .slice none 0 0] 37)) (w.heap.size + 1) (some ⟨w.heap.size, 0, none⟩) 1 badS := fun _ => by
  refine ⟨w.heap.size, 0, rfl, by omega, fun i hi => ?_⟩
  obtain rfl : i = 0 := by omega
  have hc : ∀ q, (w.alloc (.cells #[.bool true, .int .i64 0, .int .i64 1, .int .i64 0, .slice none 0 0] 37)).cell? ⟨w.heap.size, q, none⟩ = (#[Value.bool true, .int .i64 0, .int .i64 1, .int .i64 0, .slice none 0 0] : Array Value)[q]? := fun q => by rw [World.cell?_alloc_new]
  exact ⟨hc _, hc _, hc _, hc _, none, 0, hc _, ⟨fun j _ => rfl, fun h => absurd h (Nat.lt_irrefl 0)⟩, by decide⟩

set_option maxRecDepth 100000 in
set_option maxHeartbeats 4000000 in
theorem polysKnown_any (w : World) : Calls Try.prog 9 #[] w (RetV w (.bool true)) := by
  have HEQ := Lib.hid (fun (W : World) => (equal25_any 5 0 W (by omega) (by omega)).mono fun e w' h => cp_known (K := 5) (F := knF) h (by decide) kn1)
  have HL1 := Lib.hid (fun (W : World) => (less25_any 5 1 W (by omega) (by omega)).mono fun e w' h => cp_known (K := 5) (F := knF) h (by omega) kn1)
  have HL0 := Lib.hid (fun (W : World) => (less25_any 5 0 W (by omega) (by omega)).mono fun e w' h => cp_known (K := 0) (F := fun _ => 0) h (by omega) kn0)
  have HL5 := Lib.hid (fun (W : World) => (less25_any 5 5 W (by omega) (by omega)).mono fun e w' h => cp_known (K := 1) (F := fun j => if j = 0 then 1 else 0) h (by omega) kn5)
  have HCK := Lib.hid (fun (W : World) => check25_any 17 1 1 (some ⟨W.heap.size, 0, none⟩) badS (W.alloc (.cells #[.bool true, .int .i64 0, .int .i64 1, .int .i64 0, .slice none 0 0] 37)) (by omega) (by rw [World.size_alloc]; exact kn_pln) (by omega))
  have HM17 := Lib.hid (fun (W : World) (A : Option Addr) (h : Z.Sq .i64 W 0 W.heap.size A 18 p17) => (make25_any 17 18 18 A p17 W (by omega) h (by omega) (by omega)).mono fun e w' h => kn_make h p17_e (by omega) (fun j hj => if_neg (by omega)) p17_ok)
  have HM16 := Lib.hid (fun (W : World) (A : Option Addr) (h : Z.Sq .i64 W 0 W.heap.size A 17 p16) => (make25_any 17 17 17 A p16 W (by omega) h (by omega) (by omega)).mono fun e w' h => kn_make h p16_e (by omega) (fun j hj => by unfold p16; rw [if_neg (by omega), if_neg (by omega)]) p16_ok)
  have HRN := Lib.hid (fun (W : World) => run25_any 17 0 0 none badS (-8) W (by omega) (fun h => absurd h (Nat.lt_irrefl 0)) (by omega))
  go_enter Try.func9, Try.ntmps9
  go_wp2_with fail
  refine (HEQ.out _).mono ?_
  rintro e w1 ⟨hb1, A1, c1, rfl, hs1⟩
  have HS1 := Lib.hid (hs1.congr kn_bal)
  have HB1 := Lib.hid hb1
  clear hb1 hs1
  go_wp2_with fail
  refine (HL1.out _).mono ?_
  rintro e w2 ⟨hb2, A2, c2, rfl, hs2⟩
  have HS2 := Lib.hid (hs2.congr kn_bal)
  have HA2 := Lib.hid hb2
  have HB2 := Lib.hid (HB1.out.trans (hb2.mono HB1.out.size))
  clear hb2 hs2
  go_wp2_with fail
  refine (HL0.out _).mono ?_
  rintro e w3 ⟨hb3, A3, c3, rfl, hs3⟩
  have HB3 := Lib.hid (HB2.out.trans (hb3.mono HB2.out.size))
  have HA3 := Lib.hid (HA2.out.trans (hb3.mono HA2.out.size))
  have HC3 := Lib.hid hb3
  clear hb3 hs3
  go_wp2_with fail
  refine (HL5.out _).mono ?_
  rintro e w4 ⟨hb4, A4, c4, rfl, hs4⟩
  have HS4 := Lib.hid (hs4.congr kn_bal5)
  have HB4 := Lib.hid (HB3.out.trans (hb4.mono HB3.out.size))
  have HA4 := Lib.hid (HA3.out.trans (hb4.mono HA3.out.size))
  have HC4 := Lib.hid (HC3.out.trans (hb4.mono HC3.out.size))
  clear hb4 hs4
  go_wp2_with fail
  refine (HCK.out _).mono ?_
  rintro e w5 ⟨rfl, hb5⟩
  rw [kn_chk]
  have hb45 : Below w4.heap.size w4 w5 := ((Below.refl _ w4).alloc (Nat.le_refl _) _).trans (hb5.mono (by rw [World.size_alloc]; omega))
  have HB5 := Lib.hid (HB4.out.trans (hb45.mono HB4.out.size))
  have HA5 := Lib.hid (HA4.out.trans (hb45.mono HA4.out.size))
  have HC5 := Lib.hid (HC4.out.trans (hb45.mono HC4.out.size))
  have HD5 := Lib.hid hb45
  clear hb5 hb45
  go_wp2_with (at_make; refine Z.wpl_make rfl _ _ _ rfl e64s' .i64 .i64 _ _ 18 rfl rfl rfl rfl (by omega) (by unfold maxLen; omega) ?_; intro w6 hr6 hb6 hs6; have k6 := hr6.cell (show 17 < 18 by omega); have k6f := hr6.frozen 17; have HR6 := Lib.hid (Z.rowIs_set_ku hr6 17 1); have HB6 := Lib.hid (hb6.setCell (p := ⟨w5.heap.size, 17, none⟩) (Nat.le_refl _) (.int .i64 1)); clear hr6 hb6 hs6)
  have hsq6 : Z.Sq .i64 (w6.setCell ⟨w5.heap.size, 17, none⟩ (.int .i64 1)) 0 (w6.setCell ⟨w5.heap.size, 17, none⟩ (.int .i64 1)).heap.size (some ⟨w5.heap.size, 0, none⟩) 18 p17 := Z.Sq.of_row HR6.out (Nat.le_refl _) (Nat.zero_le _) HR6.out.lt (fun j hj => if_neg (by omega)) fun j hj => rfl
  refine (HM17.out _ _ hsq6).mono ?_
  rintro e w7 ⟨hb7, σ7, A7, c7, hlaw7, rfl, hpl7⟩
  have hb57 := HB6.out.trans (hb7.mono HB6.out.size)
  have HB7 := Lib.hid (HB5.out.trans (hb57.mono HB5.out.size))
  have HA7 := Lib.hid (HA5.out.trans (hb57.mono HA5.out.size))
  have HC7 := Lib.hid (HC5.out.trans (hb57.mono HC5.out.size))
  have HD7 := Lib.hid (HD5.out.trans (hb57.mono HD5.out.size))
  have hdp7 := dep_eq (k := 4) hlaw7 (by decide) (by decide) (by decide)
  have HDP := Lib.hid (depth25_any 17 σ7.n c7 A7 σ7.s w7 (by omega) hpl7 (by have := hlaw7.le; omega))
  rw [hdp7.1, hdp7.2] at HDP
  clear hb7 hb57 hlaw7 hpl7 hdp7 hsq6 k6 k6f
  go_wp2_with fail
  refine HDP.out.mono ?_
  rintro e w8 ⟨rfl, hb8⟩
  have HB8 := Lib.hid (HB7.out.trans (hb8.mono HB7.out.size))
  have HA8 := Lib.hid (HA7.out.trans (hb8.mono HA7.out.size))
  have HC8 := Lib.hid (HC7.out.trans (hb8.mono HC7.out.size))
  have HD8 := Lib.hid (HD7.out.trans (hb8.mono HD7.out.size))
  clear hb8
  go_wp2_with (at_make; refine Z.wpl_make rfl _ _ _ rfl e64s' .i64 .i64 _ _ 17 rfl rfl rfl rfl (by omega) (by unfold maxLen; omega) ?_; intro w9 hr9 hb9 hs9; have k9 := hr9.cell (show 1 < 17 by omega); have k9b := hr9.cell (show 16 < 17 by omega); have k9f := hr9.frozen 1; have k9g := hr9.frozen 16; have HR9 := Lib.hid (Z.rowIs_set_ku (Z.rowIs_set_ku hr9 1 1) 16 1); have HB9 := Lib.hid ((hb9.setCell (p := ⟨w8.heap.size, 1, none⟩) (Nat.le_refl _) (.int .i64 1)).setCell (p := ⟨w8.heap.size, 16, none⟩) (Nat.le_refl _) (.int .i64 1)); clear hr9 hb9 hs9)
  have hsq9 : Z.Sq .i64 ((w9.setCell ⟨w8.heap.size, 1, none⟩ (.int .i64 1)).setCell ⟨w8.heap.size, 16, none⟩ (.int .i64 1)) 0 ((w9.setCell ⟨w8.heap.size, 1, none⟩ (.int .i64 1)).setCell ⟨w8.heap.size, 16, none⟩ (.int .i64 1)).heap.size (some ⟨w8.heap.size, 0, none⟩) 17 p16 := Z.Sq.of_row HR9.out (Nat.le_refl _) (Nat.zero_le _) HR9.out.lt (fun j hj => by unfold p16; rw [if_neg (by omega), if_neg (by omega)]) fun j hj => rfl
  refine (HM16.out _ _ hsq9).mono ?_
  rintro e w10 ⟨hb10, σ10, A10, c10, hlaw10, rfl, hpl10⟩
  have hb810 := HB9.out.trans (hb10.mono HB9.out.size)
  have HB10 := Lib.hid (HB8.out.trans (hb810.mono HB8.out.size))
  have HA10 := Lib.hid (HA8.out.trans (hb810.mono HA8.out.size))
  have HC10 := Lib.hid (HC8.out.trans (hb810.mono HC8.out.size))
  have HD10 := Lib.hid (HD8.out.trans (hb810.mono HD8.out.size))
  have hdp10 := dep_eq (k := 3) hlaw10 (by decide) (by decide) (by decide)
  have HDP2 := Lib.hid (depth25_any 17 σ10.n c10 A10 σ10.s w10 (by omega) hpl10 (by have := hlaw10.le; omega))
  rw [hdp10.1, hdp10.2] at HDP2
  clear hb10 hb810 hlaw10 hpl10 hdp10 hsq9 k9 k9b k9f k9g
  go_wp2_with fail
  refine HDP2.out.mono ?_
  rintro e w11 ⟨rfl, hb11⟩
  have HB11 := Lib.hid (HB10.out.trans (hb11.mono HB10.out.size))
  have HA11 := Lib.hid (HA10.out.trans (hb11.mono HA10.out.size))
  have HC11 := Lib.hid (HC10.out.trans (hb11.mono HC10.out.size))
  have HD11 := Lib.hid (HD10.out.trans (hb11.mono HD10.out.size))
  clear hb11
  go_wp2_with fail
  refine (HRN.out _).mono ?_
  rintro e w12 ⟨rfl, hb12⟩
  rw [kn_run.1, kn_run.2]
  have HB12 := Lib.hid (HB11.out.trans (hb12.mono HB11.out.size))
  have HA12 := Lib.hid (HA11.out.trans (hb12.mono HA11.out.size))
  have HC12 := Lib.hid (HC11.out.trans (hb12.mono HC11.out.size))
  have HD12 := Lib.hid (HD11.out.trans (hb12.mono HD11.out.size))
  clear hb12
  -- a: of w1, kept since then by HA; b: of w2, kept by HC; d: of w4, kept by HD
  have HSA := Lib.hid (HS1.out.below HA12.out (Nat.le_refl _))
  have HSB := Lib.hid (HS2.out.below HC12.out (Nat.le_refl _))
  have HSD := Lib.hid (HS4.out.below HD12.out (Nat.le_refl _))
  have HZA := HA12.out.size
  have HZB := HC12.out.size
  have HZD := HD12.out.size
  have HQ1 := Lib.hid (same25_any 5 5 c1 5 A1 (some ⟨w12.heap.size, 0, none⟩) (zl [1, 0, 0, 0, -1]) (zl [1, 0, 0, 0, -1]) (w12.alloc (.cells #[.int .i64 1, .int .i64 0, .int .i64 0, .int .i64 0, .int .i64 (-1)] 2)) _ _ 0 (w12.heap.size + 1) (HSA.out.below ((Below.refl w12.heap.size w12).alloc (Nat.le_refl _) _) HZA) (zsq [1, 0, 0, 0, -1] rfl (Nat.zero_le _) (Nat.lt_succ_self _)) (by omega) (by omega) (by rw [World.size_alloc]; omega) (by rw [World.size_alloc]; omega))
  go_wp2_with fail
  refine HQ1.out.mono ?_
  rintro e w13 hh13
  obtain ⟨rfl, hb13⟩ := hh13.yes ⟨rfl, fun j _ => rfl⟩
  have hb1213 : Below w12.heap.size w12 w13 := ((Below.refl _ w12).alloc (Nat.le_refl _) _).trans (hb13.mono (by rw [World.size_alloc]; omega))
  have HB13 := Lib.hid (HB12.out.trans (hb1213.mono HB12.out.size))
  have HSA13 := Lib.hid (HSA.out.below hb1213 HZA)
  have HSB13 := Lib.hid (HSB.out.below hb1213 HZB)
  have HSD13 := Lib.hid (HSD.out.below hb1213 HZD)
  have hz13 := hb1213.size
  clear hb13 hh13 hb1213
  have HQ2 := Lib.hid (same25_any 5 5 c1 c2 A1 A2 (zl [1, 0, 0, 0, -1]) (zl [1, 0, 0, 0, -1]) w13 _ _ _ _ HSA13.out HSB13.out (by omega) (by omega) (by omega) (by omega))
  go_wp2_with fail
  refine HQ2.out.mono ?_
  rintro e w14 hh14
  obtain ⟨rfl, hb14⟩ := hh14.yes ⟨rfl, fun j _ => rfl⟩
  have HB14 := Lib.hid (HB13.out.trans (hb14.mono HB13.out.size))
  have HSD14 := Lib.hid (HSD13.out.below hb14 (by omega))
  have hz14 := hb14.size
  clear hb14 hh14
  have HQ3 := Lib.hid (same25_any 1 1 c4 1 A4 (some ⟨w14.heap.size, 0, none⟩) (zl [1]) (zl [1]) (w14.alloc (.cells #[.int .i64 1] 2)) _ _ 0 (w14.heap.size + 1) (HSD14.out.below ((Below.refl w14.heap.size w14).alloc (Nat.le_refl _) _) (by omega)) (zsq [1] rfl (Nat.zero_le _) (Nat.lt_succ_self _)) (by omega) (by omega) (by rw [World.size_alloc]; omega) (by rw [World.size_alloc]; omega))
  go_wp2_with fail
  refine HQ3.out.mono ?_
  rintro e w15 hh15
  obtain ⟨rfl, hb15⟩ := hh15.yes ⟨rfl, fun j _ => rfl⟩
  have HB15 := Lib.hid ((HB14.out.alloc HB14.out.size (.cells #[.int .i64 1] 2)).trans (hb15.mono (by rw [World.size_alloc]; have := HB14.out.size; omega)))
  clear hb15 hh15
  go_wp2_with fail
  refine (awake25_any w15).mono ?_
  rintro e w16 ⟨rfl, hb16⟩
  go_wp2_with fail
  go_ret
  exact ⟨rfl, HB15.out.trans (hb16.mono HB15.out.size)⟩
end Go.Proofs.Ytmidpholmgmdpaa
