/- The contract of poly.valid, at any number of polynomials; at one and at two. -/
import Derived.Test.YtoifjkandmnakaaSmallA
namespace Go.Proofs.Ytoifjkandmnakaa
open Go.RowKit

/-- the first error among L polynomials -/
def chkL (m : Nat) (n : Nat → Nat) (f : Nat → Nat → Nat) : Nat → Nat
  | 0 => 0
  | L + 1 => if chkL m n f L = 0 then chk m (n L) (f L) else chkL m n f L

theorem chkL_hit {m k x : Nat} {n : Nat → Nat} {f : Nat → Nat → Nat} (h : ∀ j, j < k → chk m (n j) (f j) = 0) (hx : chk m (n k) (f k) = x) (h0 : x ≠ 0) : ∀ L, k < L → chkL m n f L = x
  | 0, h => absurd h (Nat.not_lt_zero k)
  | L + 1, hl => by
    have hz : ∀ L, L ≤ k → chkL m n f L = 0 := by
      intro L
      induction L with
      | zero => intro _; rfl
      | succ L ih => intro hL; rw [chkL, if_pos (ih (by omega))]; exact h L (by omega)
    rw [chkL]
    rcases Nat.lt_or_ge k L with h1 | h1
    · rw [chkL_hit h hx h0 L h1, if_neg h0]
    · obtain rfl : k = L := by omega
      rw [if_pos (hz k (Nat.le_refl k)), hx]
theorem chkL_zero {m : Nat} {n : Nat → Nat} {f : Nat → Nat → Nat} : ∀ L, (∀ j, j < L → chk m (n j) (f j) = 0) → chkL m n f L = 0
  | 0, _ => rfl
  | L + 1, h => by rw [chkL, if_pos (chkL_zero L fun j hj => h j (by omega))]; exact h L (by omega)

/-- the polynomials of a slice of slices -/
def Ps (w : World) (lo hi L : Nat) (A : Nat → Option Addr) (n : Nat → Nat) (f : Nat → Nat → Nat) : Prop := ∀ i, i < L → Sq .u32 w lo hi (A i) (n i) (f i)

set_option maxHeartbeats 1000000 in
theorem validL_any (m b L : Nat) (A : Nat → Option Addr) (n c : Nat → Nat) (f : Nat → Nat → Nat) (w : World) (lo hi : Nat) (hc : Cs w b L A n c) (h : Ps w lo hi L A n f) (hn : ∀ i, i < L → n i ≤ 9223372036854775807) (hL : L ≤ 8) (hL0 : 0 < L) :
    Calls Try.prog 44 #[.int .u32 m, .slice (some ⟨b, 0, none⟩) L L] w (RetV w (.int .i64 (chkL m n f L))) := by
  by_cases hm1 : m < 2
  · rw [chkL_hit (k := 0) (x := 2) (fun j hj => absurd hj (Nat.not_lt_zero j)) (chk_m (.inl hm1)) (by omega) L hL0]
    go_enter Try.func44, Try.ntmps44
    go_wp2
    go_ret
    exact ⟨rfl, Below.refl _ _⟩
  by_cases hm2 : 2147483647 < m
  · rw [chkL_hit (k := 0) (x := 2) (fun j hj => absurd hj (Nat.not_lt_zero j)) (chk_m (.inr hm2)) (by omega) L hL0]
    go_enter Try.func44, Try.ntmps44
    go_wp2
    go_ret
    exact ⟨rfl, Below.refl _ _⟩
  go_enter Try.func44, Try.ntmps44
  go_wp2
  go_loop [18] (fun i => ∃ k : Nat, k ≤ L ∧ i = .int .i64 k ∧ (∀ j, j < k → chk m (n j) (f j) = 0)) (fun i => L - (intOf i).toNat)
  case atStart => exact ⟨0, Nat.zero_le _, rfl, fun j hj => absurd hj (Nat.not_lt_zero j)⟩
  case round =>
    obtain ⟨k, hk, rfl, hle⟩ := hrel
    have HL := Lib.hid hle
    clear hle
    by_cases hkL : k < L
    · have hck := hc k hkL
      have hfk := h k hkL
      have hnk := hn k hkL
      obtain ⟨B, hB⟩ : ∃ B, A k = B := ⟨_, rfl⟩
      obtain ⟨N, hN⟩ : ∃ N, n k = N := ⟨_, rfl⟩
      obtain ⟨C, hC⟩ : ∃ C, c k = C := ⟨_, rfl⟩
      obtain ⟨g, hg⟩ : ∃ g, f k = g := ⟨_, rfl⟩
      rw [hB, hN, hC] at hck
      rw [hB, hN, hg] at hfk
      rw [hN] at hnk
      have HN := Lib.hid (And.intro hN hg)
      clear hB hN hC hg hc h hn
      -- what this polynomial comes to, for the way out
      have hit : ∀ x, chk m N g = x → x ≠ 0 → chkL m n f L = x := fun x h1 h2 => chkL_hit HL.out (by rw [HN.out.1, HN.out.2]; exact h1) h2 L hkL
      have Hit := Lib.hid hit
      clear hit
      by_cases hl : 256 < N
      · go_wp2
        go_ret
        exact ⟨by rw [Hit.out 3 (chk_long (by omega) (by omega) hl) (by omega)]; rfl, Below.refl _ _⟩
      by_cases hn0 : 0 < N
      · obtain ⟨g0, off, rfl, _, _, hcell⟩ := hfk.2 hn0
        have hc1 := hcell (N - 1) (by omega)
        obtain ⟨x, hx⟩ : ∃ x, g (N - 1) = x := ⟨_, rfl⟩
        rw [hx] at hc1
        have HX := Lib.hid hx
        have HC := Lib.hid hcell
        have HK := Lib.hid hfk
        clear hx hcell hfk
        have hkz : ((N : Int) - 1).toNat = N - 1 := by omega
        by_cases hx0 : x = 0
        · subst hx0
          go_wp2
          go_ret
          exact ⟨by rw [Hit.out 2 (chk_last (by omega) (by omega) (by omega) hn0 HX.out) (by omega)]; rfl, Below.refl _ _⟩
        · have hxz : ((x : Int) == 0) = false := by simp; omega
          go_wp2
          clear hc1 hxz hkz
          go_loop [39] (fun i => ∃ t : Nat, t ≤ N ∧ i = .int .i64 t ∧ (∀ j, j < t → g j < m)) (fun i => N - (intOf i).toNat)
          case atStart => exact ⟨0, Nat.zero_le _, rfl, fun j hj => absurd hj (Nat.not_lt_zero j)⟩
          case round =>
            obtain ⟨t, ht, rfl, hlt⟩ := hrel
            have HT := Lib.hid hlt
            clear hlt
            by_cases htN : t < N
            · have hc2 := HC.out t htN
              obtain ⟨y, hy⟩ : ∃ y, g t = y := ⟨_, rfl⟩
              rw [hy] at hc2
              have HY := Lib.hid hy
              clear hy
              by_cases hym : m ≤ y
              · go_wp2
                go_ret
                exact ⟨by rw [Hit.out 2 (chk_big (by omega) (by omega) (by omega) htN (by rw [HY.out]; exact hym)) (by omega)]; rfl, Below.refl _ _⟩
              · go_wp2
                go_round
                case rel =>
                  refine ⟨t + 1, by omega, by go_num, fun j hj => ?_⟩
                  rcases Nat.lt_or_ge j t with h | h
                  · exact HT.out j h
                  · rw [show j = t from by omega, HY.out]; omega
                case measure => simp [intOf]; omega
            · go_wp2
              go_round
              case rel =>
                refine ⟨k + 1, by omega, by go_num, fun j hj => ?_⟩
                rcases Nat.lt_or_ge j k with h | h
                · exact HL.out j h
                · rw [show j = k from by omega, HN.out.1, HN.out.2]
                  exact chk_ok (by omega) (by omega) (by omega) (fun i hi => HT.out i (by omega)) fun _ => by rw [HX.out]; exact hx0
              case measure => simp [intOf]; omega
      · clear hfk
        go_wp2
        go_loop [39] (fun i => i = .int .i64 0) (fun i => N - (intOf i).toNat)
        case atStart => rfl
        case round =>
          obtain rfl := hrel
          go_wp2
          go_round
          case rel =>
            refine ⟨k + 1, by omega, by go_num, fun j hj => ?_⟩
            rcases Nat.lt_or_ge j k with h | h
            · exact HL.out j h
            · rw [show j = k from by omega, HN.out.1, HN.out.2]
              exact chk_ok (by omega) (by omega) (by omega) (fun i hi => by omega) fun h => absurd h hn0
          case measure => simp [intOf]; omega
    · clear h hn hc
      go_wp2
      go_ret
      exact ⟨by rw [chkL_zero L fun j hj => HL.out j (by omega)]; rfl, Below.refl _ _⟩

theorem chkL_two {m n1 n2 : Nat} {f1 f2 : Nat → Nat} : chkL m (two n1 n2) (two f1 f2) 2 = chk2 m n1 f1 n2 f2 := by
  show (if (if (0 : Nat) = 0 then chk m n1 f1 else 0) = 0 then chk m n2 f2 else (if (0 : Nat) = 0 then chk m n1 f1 else 0)) = _
  rw [if_pos rfl]
  rfl

theorem valid2_any (m b n nb ca cb : Nat) (A B : Option Addr) (f g : Nat → Nat) (w : World) (lo hi : Nat) (h0 : w.cell? ⟨b, 0, none⟩ = some (.slice A n ca)) (h1 : w.cell? ⟨b, 1, none⟩ = some (.slice B nb cb)) (hf : Sq .u32 w lo hi A n f) (hg : Sq .u32 w lo hi B nb g)
    (hn : n ≤ 9223372036854775807) (hnb : nb ≤ 9223372036854775807) :
    Calls Try.prog 44 #[.int .u32 m, .slice (some ⟨b, 0, none⟩) 2 2] w (RetV w (.int .i64 (chk2 m n f nb g))) := by
  have h := validL_any m b 2 (two A B) (two n nb) (two ca cb) (two f g) w lo hi (Cs.two_ h0 h1) (fun i hi => by match i, hi with | 0, _ => exact hf | 1, _ => exact hg) (fun i hi => by match i, hi with | 0, _ => exact hn | 1, _ => exact hnb) (by omega) (by omega)
  rw [chkL_two] at h
  exact h
theorem valid1_any (m b n ca : Nat) (A : Option Addr) (f : Nat → Nat) (w : World) (lo hi : Nat) (h0 : w.cell? ⟨b, 0, none⟩ = some (.slice A n ca)) (hf : Sq .u32 w lo hi A n f) (hn : n ≤ 9223372036854775807) :
    Calls Try.prog 44 #[.int .u32 m, .slice (some ⟨b, 0, none⟩) 1 1] w (RetV w (.int .i64 (chk m n f))) :=
  validL_any m b 1 (fun _ => A) (fun _ => n) (fun _ => ca) (fun _ => f) w lo hi (Cs.one_ h0) (fun _ _ => hf) (fun _ _ => hn) (by omega) (by omega)
end Go.Proofs.Ytoifjkandmnakaa
