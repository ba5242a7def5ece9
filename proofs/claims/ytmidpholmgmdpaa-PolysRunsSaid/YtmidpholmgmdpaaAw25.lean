/- The contract of the law's own awake of layer 25: it returns true. -/
import Derived.Test.YtmidpholmgmdpaaMm25
import Derived.Test.YtmidpholmgmdpaaT25
import Derived.Test.YtmidpholmgmdpaaSame25
namespace Go.Proofs.Ytmidpholmgmdpaa
open Go.RowKit
set_option linter.unusedVariables false

def zl (l : List Int) : Nat → Int := fun j => l.getD j 0
theorem zsq {w : World} {e lo hi : Nat} (l : List Int) {cs : Array Value} (hcs : cs = (l.map (Value.int .i64)).toArray) (hl : lo ≤ w.heap.size) (hh : w.heap.size < hi) : Z.Sq .i64 (w.alloc (.cells cs e)) lo hi (some ⟨w.heap.size, 0, none⟩) l.length (zl l) := by
  subst hcs
  refine Z.sq_new (zl l) hl hh (fun j hj => ?_) fun j hj => ?_
  · unfold zl
    rw [List.getD_eq_getElem?_getD, List.getElem?_eq_none hj]
    rfl
  · unfold zl
    rw [List.getD_eq_getElem?_getD, List.getElem?_toArray, List.getElem?_map, List.getElem?_eq_getElem hj]
    rfl
theorem pr5 : Mr.Pr 5 := pr_lit (by omega) (by decide)
theorem field5 : fieldE 5 = 0 := by
  unfold fieldE
  rw [if_pos (pp7_yes.2 ⟨by omega, by omega, pr5⟩), if_neg (by omega)]
theorem apart_of {p m : Nat} (hpr : Mr.Pr p) (hm : m ≤ p) : Apart p m (idF m) := fun i k hki hi => by
  unfold idF dif
  rw [if_pos hi, if_pos (by omega)]
  refine hpr.coprime fun hd => ?_
  have h1 : (i + p - k) % p = i - k := by rw [show i + p - k = (i - k) + p by omega, Nat.add_mod_right, Nat.mod_eq_of_lt (by omega)]
  rw [h1] at hd
  have := Nat.le_of_dvd (by omega) hd
  omega
def awY : Nat → Int := zl [0, 1, -1, -1, 1]
theorem aw_thr : Thr 5 5 (idF 5) (resF 5 5 awY) 3 (fun j => if j = 2 then 1 else 0) where
  rs := ⟨fun j => by show (if j = 2 then 1 else 0) < 5; split <;> omega, fun j hj => if_neg (by omega)⟩
  le := by omega
  to := by decide
  vo := fun t ht => by
    have h : t = 0 ∨ t = 1 ∨ t = 2 ∨ t = 3 ∨ t = 4 := by omega
    rcases h with rfl | rfl | rfl | rfl | rfl <;> decide
theorem aw_tbok : TbOk 5 5 awY := ⟨by omega, fun i hi => by
  have h : i = 0 ∨ i = 1 ∨ i = 2 ∨ i = 3 ∨ i = 4 := by omega
  rcases h with rfl | rfl | rfl | rfl | rfl <;> decide⟩
theorem aw_table {w w' : World} {e : Ending} (h : RetTb w 5 5 awY e w') : Below w.heap.size w w' ∧ ∃ A c, e = .returned (.tuple #[.slice A 3 c, .int .i64 0]) ∧ Z.Sq .i64 w' w.heap.size w'.heap.size A 3 (zl [0, 0, 1]) := by
  obtain ⟨hb, h⟩ := h
  refine ⟨hb, ?_⟩
  rcases h with ⟨h1, _⟩ | ⟨_, h1, _⟩ | ⟨_, _, A, c, k, f, rfl, hth, hsq⟩
  · exact absurd field5 h1
  · exact absurd aw_tbok h1
  · obtain ⟨rfl, rfl⟩ := Thr.uniq (by omega) (fun j hj => by unfold idF; rw [if_pos hj]; exact hj) (apart_of pr5 (Nat.le_refl _)) hth aw_thr
    refine ⟨A, c, rfl, hsq.congr fun j => ?_⟩
    rcases (by omega : j = 0 ∨ j = 1 ∨ j = 2 ∨ 3 ≤ j) with rfl | rfl | rfl | h3
    · decide
    · decide
    · decide
    · unfold balF zl
      rw [if_neg (by omega), List.getD_eq_getElem?_getD, List.getElem?_eq_none h3]
      rfl
def awS : Nat → PS := fun i => if i = 0 then ⟨true, 0, 0, 0, 0, fun _ => 0⟩ else ⟨false, 0, 0, 1, 2, zl [0, 2]⟩
theorem aw_modB : modB 17 = true := by decide
theorem aw_chk : chkE 17 2 awS = 0 := by
  unfold chkE
  rw [if_pos aw_modB, if_neg (by omega), if_pos]
  intro i hi
  rcases (by omega : i = 0 ∨ i = 1) with rfl | rfl
  · show stepOk 17 1 ⟨true, 0, 0, 0, 0, fun _ => 0⟩
    unfold stepOk
    rw [if_pos rfl]
    exact ⟨⟨by decide, by decide, by decide, by decide⟩, rfl, rfl⟩
  · show stepOk 17 2 ⟨false, 0, 0, 1, 2, zl [0, 2]⟩
    unfold stepOk
    rw [if_neg Bool.false_ne_true]
    refine ⟨rfl, rfl, by decide, by decide, fun j hj => ?_⟩
    rcases (by have : j < 2 := hj; omega : j = 0 ∨ j = 1) with rfl | rfl <;> decide
theorem aw_run : runV 17 2 awS 3 = 2 ∧ runE 17 2 awS 3 = 0 := by
  have hb : balB 17 3 = true := by decide
  constructor
  · unfold runV
    rw [if_pos ⟨aw_chk, hb⟩]
    decide
  · unfold runE
    rw [if_pos aw_chk, if_pos hb]
theorem aw_dep : depV 17 2 awS = 1 := by
  unfold depV
  rw [if_pos aw_chk]
  decide
theorem aw_poly : polyE 17 3 (zl [0, 1, 1]) = 0 := by
  unfold polyE
  rw [if_pos aw_modB, if_neg (by omega), if_pos]
  refine ⟨fun i hi => ?_, fun _ => by decide⟩
  rcases (by omega : i = 0 ∨ i = 1 ∨ i = 2) with rfl | rfl | rfl <;> decide
/-- a plan that Make makes has a step -/
theorem MakeR.pos {m : Nat} {a : Nat → Int} {σ : MSt} (h : MakeR m a σ) (hm : m ≤ 256) : 0 < σ.n := by
  have hb := babyOf_bound hm
  cases h with
  | last h1 h2 h3 h4 =>
    have f1 := h1.facts (by omega) (by omega) sta0_ok
    have f2 := h2.ok f1.1 f1.2.2.2.2
    omega
  | copy h1 h2 h3 => exact Nat.succ_pos _
theorem aw_pln {w : World} : Pln ((w.alloc (.cells #[.int .i64 0, .int .i64 2] 2)).alloc (.cells #[.bool true, .int .i64 0, .int .i64 0, .int .i64 0, .slice none 0 0, .bool false, .int .i64 0, .int .i64 0, .int .i64 1, .slice (some ⟨w.heap.size, 0, none⟩) 2 2] 37)) (w.heap.size + 1 + 1) (some ⟨w.heap.size + 1, 0, none⟩) 2 awS := fun _ => by
  refine ⟨w.heap.size + 1, 0, rfl, by omega, fun i hi => ?_⟩
  have hc : ∀ q, ((w.alloc (.cells #[.int .i64 0, .int .i64 2] 2)).alloc (.cells #[.bool true, .int .i64 0, .int .i64 0, .int .i64 0, .slice none 0 0, .bool false, .int .i64 0, .int .i64 0, .int .i64 1, .slice (some ⟨w.heap.size, 0, none⟩) 2 2] 37)).cell? ⟨w.heap.size + 1, q, none⟩ = (#[Value.bool true, .int .i64 0, .int .i64 0, .int .i64 0, .slice none 0 0, .bool false, .int .i64 0, .int .i64 0, .int .i64 1, .slice (some ⟨w.heap.size, 0, none⟩) 2 2] : Array Value)[q]? := fun q => by
    have := World.cell?_alloc_new (w := w.alloc (.cells #[.int .i64 0, .int .i64 2] 2)) (c := #[Value.bool true, .int .i64 0, .int .i64 0, .int .i64 0, .slice none 0 0, .bool false, .int .i64 0, .int .i64 0, .int .i64 1, .slice (some ⟨w.heap.size, 0, none⟩) 2 2]) (t := 37) (i := q)
    rw [World.size_alloc] at this
    exact this
  rcases (by omega : i = 0 ∨ i = 1) with rfl | rfl
  · exact ⟨hc _, hc _, hc _, hc _, none, 0, hc _, ⟨fun j _ => rfl, fun h => absurd h (Nat.lt_irrefl 0)⟩, by decide⟩
  · refine ⟨hc _, hc _, hc _, hc _, some ⟨w.heap.size, 0, none⟩, 2, hc _, ?_, by decide⟩
    exact (zsq (w := w) (e := 2) (lo := 0) (hi := w.heap.size + 1) [0, 2] rfl (Nat.zero_le _) (Nat.lt_succ_self _)).below ((Below.refl (w.heap.size + 1) _).alloc (by rw [World.size_alloc]; omega) _) (Nat.le_refl _) |>.wide (Nat.le_refl _) (by omega)

theorem Pln.wide {w : World} {hi hi' n : Nat} {A : Option Addr} {s : Nat → PS} (h : Pln w hi A n s) (hh : hi ≤ hi') : Pln w hi' A n s := fun hn => by
  obtain ⟨g, off, hA, hg, hc⟩ := h hn
  refine ⟨g, off, hA, by omega, fun i hi2 => ?_⟩
  obtain ⟨h0, h1, h2, h3, C, c, h4, h5, h6⟩ := hc i hi2
  exact ⟨h0, h1, h2, h3, C, c, h4, h5.wide (Nat.le_refl _) hh, h6⟩
set_option maxRecDepth 100000 in
set_option maxHeartbeats 4000000 in
theorem awake25_any (w : World) : Calls Try.prog 10 #[] w (RetV w (.bool true)) := by
  have HT := Lib.hid (fun (W : World) => (table25_any 5 5 5 (some ⟨W.heap.size, 0, none⟩) awY (W.alloc (.cells #[.int .i64 0, .int .i64 1, .int .i64 (-1), .int .i64 (-1), .int .i64 1] 2)) (by omega) (zsq [0, 1, -1, -1, 1] rfl (Nat.zero_le _) (by rw [World.size_alloc]; omega)) (by omega)).mono fun e w' h => aw_table h)
  have HR := Lib.hid (fun (W : World) (A : Option Addr) (h : Pln W W.heap.size A 2 awS) => run25_any 17 2 2 A awS 3 W (by omega) h (by omega))
  have HD := Lib.hid (fun (W : World) (A : Option Addr) (h : Pln W W.heap.size A 2 awS) => depth25_any 17 2 2 A awS W (by omega) h (by omega))
  have HMK := Lib.hid (fun (W : World) => make25_any 17 3 3 (some ⟨W.heap.size, 0, none⟩) (zl [0, 1, 1]) (W.alloc (.cells #[.int .i64 0, .int .i64 1, .int .i64 1] 2)) (by omega) (zsq [0, 1, 1] rfl (Nat.zero_le _) (by rw [World.size_alloc]; omega)) (by omega) (by omega))
  go_enter Try.func10, Try.ntmps10
  go_wp2_with fail
  refine (HT.out _).mono ?_
  rintro e w2 ⟨hb2, A2, c2, rfl, hsq2⟩
  have HS2 := Lib.hid hsq2
  have HB2 : Hid (Below w.heap.size w w2) := Lib.hid (((Below.refl _ w).alloc (Nat.le_refl _) _).trans (hb2.mono (by rw [World.size_alloc]; omega)))
  clear hsq2 hb2
  go_wp2_with fail
  have HZ2 := Lib.hid HB2.out.size
  have HPL : Hid (Pln ((w2.alloc (.cells #[.int .i64 0, .int .i64 2] 2)).alloc (.cells #[.bool true, .int .i64 0, .int .i64 0, .int .i64 0, .slice none 0 0, .bool false, .int .i64 0, .int .i64 0, .int .i64 1, .slice (some ⟨w2.heap.size, 0, none⟩) 2 2] 37)) ((w2.alloc (.cells #[.int .i64 0, .int .i64 2] 2)).alloc (.cells #[.bool true, .int .i64 0, .int .i64 0, .int .i64 0, .slice none 0 0, .bool false, .int .i64 0, .int .i64 0, .int .i64 1, .slice (some ⟨w2.heap.size, 0, none⟩) 2 2] 37)).heap.size (some ⟨w2.heap.size + 1, 0, none⟩) 2 awS) := Lib.hid (by
    have h := aw_pln (w := w2)
    have e : ((w2.alloc (.cells #[.int .i64 0, .int .i64 2] 2)).alloc (.cells #[.bool true, .int .i64 0, .int .i64 0, .int .i64 0, .slice none 0 0, .bool false, .int .i64 0, .int .i64 0, .int .i64 1, .slice (some ⟨w2.heap.size, 0, none⟩) 2 2] 37)).heap.size = w2.heap.size + 1 + 1 := by rw [World.size_alloc, World.size_alloc]
    rw [e]
    exact h)
  have HB3 : Hid (Below w.heap.size w ((w2.alloc (.cells #[.int .i64 0, .int .i64 2] 2)).alloc (.cells #[.bool true, .int .i64 0, .int .i64 0, .int .i64 0, .slice none 0 0, .bool false, .int .i64 0, .int .i64 0, .int .i64 1, .slice (some ⟨w2.heap.size, 0, none⟩) 2 2] 37)) ∧ Below w2.heap.size w2 ((w2.alloc (.cells #[.int .i64 0, .int .i64 2] 2)).alloc (.cells #[.bool true, .int .i64 0, .int .i64 0, .int .i64 0, .slice none 0 0, .bool false, .int .i64 0, .int .i64 0, .int .i64 1, .slice (some ⟨w2.heap.size, 0, none⟩) 2 2] 37))) := Lib.hid (by
    have h2 := HZ2.out
    have h := ((Below.refl w2.heap.size w2).alloc (Nat.le_refl _) (.cells #[.int .i64 0, .int .i64 2] 2)).alloc (by rw [World.size_alloc]; omega) (.cells #[.bool true, .int .i64 0, .int .i64 0, .int .i64 0, .slice none 0 0, .bool false, .int .i64 0, .int .i64 0, .int .i64 1, .slice (some ⟨w2.heap.size, 0, none⟩) 2 2] 37)
    exact ⟨HB2.out.trans (h.mono h2), h⟩)
  have HSS3 := Lib.hid (HS2.out.below HB3.out.2 (Nat.le_refl _))
  refine (HR.out _ _ HPL.out).mono ?_
  rintro e w4 ⟨rfl, hb4⟩
  rw [aw_run.1, aw_run.2]
  have HPL4 := Lib.hid ((HPL.out.below hb4).wide hb4.size)
  have HS4 := Lib.hid ((HSS3.out.wide (Nat.le_refl _) HB3.out.2.size).below hb4 (Nat.le_refl _))
  have HB4 := Lib.hid (HB3.out.1.trans (hb4.mono HB3.out.1.size))
  have hz4 := hb4.size
  clear hb4
  go_wp2_with fail
  refine (HD.out _ _ HPL4.out).mono ?_
  rintro e w5 ⟨rfl, hb5⟩
  rw [aw_dep, aw_chk]
  have HS5 := Lib.hid (HS4.out.below hb5 hz4)
  have HB5 := Lib.hid (HB4.out.trans (hb5.mono HB4.out.size))
  have hz5 := hb5.size
  clear hb5
  go_wp2_with fail
  refine (HMK.out _).mono ?_
  rintro e w6 ⟨hb6, hh⟩
  rcases hh with ⟨h, _⟩ | ⟨_, σ, A6, c6, hmr, rfl, hpl6⟩
  · exact absurd aw_poly h
  have hpos := hmr.pos (by omega)
  have HS6 := Lib.hid ((HS5.out.below ((Below.refl w5.heap.size w5).alloc (Nat.le_refl _) (.cells #[.int .i64 0, .int .i64 1, .int .i64 1] 2)) (by omega)).below hb6 (by simp only [World.size_alloc] at hz4 ⊢; omega))
  have HB6 := Lib.hid ((HB5.out.alloc HB5.out.size (.cells #[.int .i64 0, .int .i64 1, .int .i64 1] 2)).trans (hb6.mono (by rw [World.size_alloc]; have := HB5.out.size; omega)))
  have hz6 := hb6.size
  rw [World.size_alloc] at hz6
  have dn : decide ((σ.n : Int) > 0) = true := decide_eq_true (by omega)
  have dn2 : decide (0 < σ.n) = true := decide_eq_true hpos
  clear hb6 hmr hpl6
  have HSM := Lib.hid (same25_any 3 3 c2 3 A2 (some ⟨w6.heap.size, 0, none⟩) (zl [0, 0, 1]) (zl [0, 0, 1]) (w6.alloc (.cells #[.int .i64 0, .int .i64 0, .int .i64 1] 2)) _ _ 0 (w6.heap.size + 1) (HS6.out.below ((Below.refl w6.heap.size w6).alloc (Nat.le_refl _) _) (by simp only [World.size_alloc] at hz4 ⊢; omega)) (zsq [0, 0, 1] rfl (Nat.zero_le _) (Nat.lt_succ_self _)) (by omega) (by omega) (by simp only [World.size_alloc] at hz4 ⊢; omega) (by rw [World.size_alloc]; omega))
  go_wp2_with fail
  refine HSM.out.mono ?_
  rintro e w7 hh7
  obtain ⟨rfl, hb7⟩ := hh7.yes ⟨rfl, fun j _ => rfl⟩
  have HB7 := Lib.hid ((HB6.out.alloc HB6.out.size (.cells #[.int .i64 0, .int .i64 0, .int .i64 1] 2)).trans (hb7.mono (by rw [World.size_alloc]; have := HB6.out.size; omega)))
  clear hb7 hh7
  go_wp2_with fail
  go_ret
  exact ⟨rfl, HB7.out⟩
end Go.Proofs.Ytmidpholmgmdpaa
