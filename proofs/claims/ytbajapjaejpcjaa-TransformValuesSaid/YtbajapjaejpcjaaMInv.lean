/- The contract of modular.Inverse. -/
import Derived.Test.YtbajapjaejpcjaaEuclid
import Derived.Test.YtbajapjaejpcjaaFits
namespace Go.Proofs.Ytbajapjaejpcjaa
open Go.RowKit

def EuState (m a : Nat) (r s p q : Value) : Prop := ∃ (x y : Nat) (u v : Int), EI m a x y u v ∧ r = .int .i64 x ∧ s = .int .i64 y ∧ p = .int .i64 u ∧ q = .int .i64 v

/-- what an inverse comes to -/
def invE (a n : Nat) : Nat × Nat := if fitsB n 1 (oneF a) = true then (if Nat.gcd n a = 1 then (invN a n, 0) else (0, 4)) else (0, 2)
def InvBool (a m : Nat) (w : World) (e : Ending) (w' : World) : Prop :=
  w = w' ∧ ((Nat.gcd m a = 1 ∧ e = .returned (.tuple #[.int .u32 (invN a m : Nat), .bool true])) ∨ (Nat.gcd m a ≠ 1 ∧ e = .returned (.tuple #[.int .u32 0, .bool false])))
def InvErr (a m : Nat) (w : World) (e : Ending) (w' : World) : Prop :=
  Below w.heap.size w w' ∧ e = .returned (.tuple #[.int .u32 ((invE a m).1 : Nat), .int .i64 ((invE a m).2 : Nat)])
theorem invE_ok {a m : Nat} (h : fitsB m 1 (oneF a) = true) (hg : Nat.gcd m a = 1) : invE a m = (invN a m, 0) := by
  unfold invE
  rw [if_pos h, if_pos hg]
theorem invE_none {a m : Nat} (h : fitsB m 1 (oneF a) = true) (hg : Nat.gcd m a ≠ 1) : invE a m = (0, 4) := by
  unfold invE
  rw [if_pos h, if_neg hg]
theorem invE_arg {a m : Nat} (h : fitsB m 1 (oneF a) = false) : invE a m = (0, 2) := by
  unfold invE
  rw [if_neg (by rw [h]; decide)]
theorem ret_pair {x y : Value} {a b c d : Value} (h1 : a = c) (h2 : b = d) (_ : x = a) (_ : y = b) : Ending.returned (.tuple #[a, b]) = .returned (.tuple #[c, d]) := by rw [h1, h2]

set_option maxHeartbeats 1000000 in
theorem inverse_any (a m : Nat) (w : World) :
    Calls Try.prog 38 #[.int .u32 a, .int .u32 m] w (InvErr a m w) := by
  have hsq : ∀ o, o = Obj.cells #[Value.int .u32 (a : Nat)] 22 → Sq .u32 (w.alloc o) 0 (w.heap.size + 1) (some ⟨w.heap.size, 0, none⟩) 1 (oneF a) := fun o ho => by subst ho; exact sq_one rfl (Nat.zero_le _) (Nat.lt_succ_self _)
  have HS := Lib.hid (hsq _ rfl)
  have hbel := (Below.refl w.heap.size w).alloc (Nat.le_refl _) (Obj.cells #[Value.int .u32 (a : Nat)] 22)
  clear hsq
  by_cases hf : fitsB m 1 (oneF a) = true
  · have hfit := fits_any m 1 1 _ (oneF a) _ 0 _ HS.out (by omega)
    rw [hf] at hfit
    obtain ⟨ha, hm, hm2⟩ := fits_one.1 hf
    have HF := Lib.hid hf
    have HT := Lib.hid hfit
    clear hf hfit
    go_enter Try.func38, Try.ntmps38
    go_wp2_with (go_at_call 42; refine HT.out.mono ?_; rintro e w' ⟨rfl, rfl⟩)
    clear HT HS
    go_loop [6, 7, 8, 9] (EuState m a) (fun _ s _ _ => (intOf s).toNat)
    case atStart => exact ⟨m, a, 0, 1, EI.start ha, rfl, rfl, rfl, rfl⟩
    case round =>
      obtain ⟨x, y, u, v, hei, rfl, rfl, rfl, rfl⟩ := hrel
      by_cases hy : 0 < y
      · have hstep := Lib.hid (hei.step hy)
        obtain ⟨b1, b2, b3, b4, b5⟩ := hei.bounds hy
        obtain ⟨b6, b7⟩ := quo_bounds x y
        have hle := hei.le
        have htop := hei.top
        have hsm := hei.small
        have h5 := Lib.hid b5
        have hyz : ((y : Int) != 0) = true := by simp; omega
        have hmodlt := Nat.mod_lt x hy
        clear b5 hei
        go_wp2
        go_round
        case rel => exact ⟨y, x % y, v, _, hstep.out, rfl, by rw [← h5.out], rfl, rfl⟩
        case measure =>
          have := h5.out
          simp [intOf]
          omega
      · obtain rfl : y = 0 := by omega
        have hg := hei.end_
        by_cases hx1 : x = 1
        · subst hx1
          have hi := hei.inv hm
          have hsm := hei.small
          by_cases hu : u < 0
          · rw [if_pos hu] at hi
            obtain ⟨i1, i2, i3⟩ := hi
            have H3 := Lib.hid i3
            have HG := Lib.hid hg
            clear hei hg i3
            go_wp2
            go_ret2
            exact ⟨hbel, by rw [invE_ok HF.out HG.out.symm, H3.out]; rfl⟩
          · rw [if_neg hu] at hi
            obtain ⟨i1, i2, i3⟩ := hi
            have H3 := Lib.hid i3
            have HG := Lib.hid hg
            clear hei hg i3
            go_wp2
            go_ret2
            exact ⟨hbel, by rw [invE_ok HF.out HG.out.symm, H3.out]; rfl⟩
        · have hxz : ((x : Int) != 1) = true := by simp; omega
          have hle := hei.le
          have HG := Lib.hid hg
          clear hei hg
          go_wp2
          go_ret2
          exact ⟨hbel, by rw [invE_none HF.out (by rw [← HG.out]; exact hx1)]; rfl⟩
  · have hf2 : fitsB m 1 (oneF a) = false := by
      cases h : fitsB m 1 (oneF a)
      · rfl
      · exact absurd h hf
    have hfit := fits_any m 1 1 _ (oneF a) _ 0 _ HS.out (by omega)
    rw [hf2] at hfit
    have HF := Lib.hid hf2
    have HT := Lib.hid hfit
    clear hf hf2 hfit
    go_enter Try.func38, Try.ntmps38
    go_wp2_with (go_at_call 42; refine HT.out.mono ?_; rintro e w' ⟨rfl, rfl⟩)
    go_ret2
    exact ⟨hbel, by rw [invE_arg HF.out]; rfl⟩
end Go.Proofs.Ytbajapjaejpcjaa
