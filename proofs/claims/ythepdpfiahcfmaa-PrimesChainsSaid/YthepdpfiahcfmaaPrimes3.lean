/- The walks of the laws PrimesFind, PrimesChains and PrimesPlains: they return true. -/
import Derived.Test.YthepdpfiahcfmaaShown3
namespace Go.Proofs.Ythepdpfiahcfmaa
open Go.RowKit
set_option linter.unusedVariables false

theorem chR_len {n : Int} {t : Nat} {c : Int} {l : List Nat} {E : Nat} (h : ChR n t c l E) : l.length ≤ 25 := by
  rcases h with ⟨_, rfl, _⟩ | ⟨h1, h2⟩
  · exact Nat.zero_le _
  · rcases h2 with ⟨j, _, _, _, h3, _⟩ | ⟨j, _, _, _, _, rfl, _⟩
    · have : ¬ 25 < c := fun h => h1 (.inr (.inr (.inr (.inr (.inr h)))))
      omega
    · exact Nat.zero_le _

set_option maxRecDepth 100000 in
set_option maxHeartbeats 1000000 in
theorem primesFind_any (a s : Nat) (w : World) (ha : a ≤ 4294967295) (hs : s ≤ 4294967295) : Calls Try.prog 3 #[.int .u32 a, .int .u32 s] w (RetV w (.bool true)) := by
  have H1 := Lib.hid (fun V => pbelow_any a s V ha hs)
  have H2 := Lib.hid (fun V => rbelow_any a s V ha hs)
  have H3 := Lib.hid (fun V => pnext_any a s V ha hs)
  have H4 := Lib.hid (fun V => rnext_any a s V ha hs)
  go_enter Try.func3, Try.ntmps3
  go_wp2_with fail
  refine (H1.out w).mono ?_
  rintro e w1 ⟨v1, E1, rfl, hr1, hb1⟩
  go_wp2_with fail
  refine (H2.out w1).mono ?_
  rintro e w2 ⟨v, E, rfl, hr, hb2'⟩
  obtain ⟨rfl, rfl⟩ := hr1.uniq hr
  have hb2 := hb1.trans (hb2'.mono hb1.size)
  clear hr1 hr hb2'
  go_wp2_with fail
  refine (H3.out w2).mono ?_
  rintro e w3 ⟨v3, E3, rfl, hr3, hb3'⟩
  have hb3 := hb2.trans (hb3'.mono hb2.size)
  go_wp2_with fail
  refine (H4.out w3).mono ?_
  rintro e w4 ⟨v', E', rfl, hr', hb4'⟩
  obtain ⟨rfl, rfl⟩ := hr3.uniq hr'
  have hb4 := hb3.trans (hb4'.mono hb3.size)
  clear hr3 hr'
  go_wp2_with fail
  (with_reducible refine (shown_any w4).mono ?_)
  rintro e w5 ⟨rfl, hb5'⟩
  have hb5 := hb4.trans (hb5'.mono hb4.size)
  go_wp2_with fail
  go_ret
  exact ⟨rfl, hb5⟩

set_option maxRecDepth 100000 in
set_option maxHeartbeats 1000000 in
theorem primesPlains_any (n r : Int) (p : Nat) (w : World) (hp : p ≤ 4294967295) (hr1 : -9223372036854775808 ≤ r) (hr2 : r ≤ 9223372036854775807) : Calls Try.prog 5 #[.int .i64 n, .int .u32 p, .int .i64 r] w (RetV w (.bool true)) := by
  have H1 := Lib.hid (fun V => pgen_any p V hp)
  have H2 := Lib.hid (fun V => rgen3_any p V hp)
  have H3 := Lib.hid (fun V => pplain_any n r p V hp hr1 hr2)
  have H4 := Lib.hid (fun V => rplain_any n r p V hp hr1 hr2)
  go_enter Try.func5, Try.ntmps5
  go_wp2_with fail
  refine (H1.out w).mono ?_
  rintro e w1 ⟨v1, E1, rfl, hr1, hb1⟩
  go_wp2_with fail
  refine (H2.out w1).mono ?_
  rintro e w2 ⟨v, E, rfl, hr, hb2'⟩
  obtain ⟨rfl, rfl⟩ := hr1.uniq hr
  have hb2 := hb1.trans (hb2'.mono hb1.size)
  clear hr1 hr hb2'
  go_wp2_with fail
  refine (H3.out w2).mono ?_
  rintro e w3 ⟨v3, E3, rfl, hr3, hb3'⟩
  have hb3 := hb2.trans (hb3'.mono hb2.size)
  go_wp2_with fail
  refine (H4.out w3).mono ?_
  rintro e w4 ⟨v', E', rfl, hr', hb4'⟩
  obtain ⟨rfl, rfl⟩ := hr3.uniq hr'
  have hb4 := hb3.trans (hb4'.mono hb3.size)
  clear hr3 hr'
  go_wp2_with fail
  (with_reducible refine (shown_any w4).mono ?_)
  rintro e w5 ⟨rfl, hb5'⟩
  have hb5 := hb4.trans (hb5'.mono hb4.size)
  go_wp2_with fail
  go_ret
  exact ⟨rfl, hb5⟩

set_option maxRecDepth 100000 in
set_option maxHeartbeats 1000000 in
theorem primesChains_any (n c : Int) (t : Nat) (w : World) (ht : t ≤ 4294967295) (hc1 : -9223372036854775808 ≤ c) (hc2 : c ≤ 9223372036854775807) : Calls Try.prog 4 #[.int .i64 n, .int .u32 t, .int .i64 c] w (RetV w (.bool true)) := by
  have H1 := Lib.hid (fun V => pchain_any n c t V ht hc1 hc2)
  have H2 := Lib.hid (fun V => rchain_any n c t V ht hc1 hc2)
  go_enter Try.func4, Try.ntmps4
  go_wp2_with fail
  refine (H1.out w).mono ?_
  rintro e w1 ⟨A, cp, l, E, rfl, hlc, hwl, hr1, hb1⟩
  go_wp2_with fail
  refine (H2.out w1).mono ?_
  rintro e w2 ⟨A', cp', l', E', rfl, hlc', hwl', hr, hb2'⟩
  obtain ⟨rfl, rfl⟩ := hr1.uniq hr
  have hl := chR_len hr
  have hb2 := hb1.trans (hb2'.mono hb1.size)
  have HS := Lib.hid (samew_any l'.length l'.length cp cp' A A' (fun j => l'.getD j 0) (fun j => l'.getD j 0) w2 _ _ _ _ (hwl.below hb2' (Nat.le_refl _)) hwl' (by omega) (by omega) hb2'.size (Nat.le_refl _))
  rw [sameB_refl] at HS
  clear hr1 hr hb2' hwl hwl'
  go_wp2_with fail
  (with_reducible refine HS.out.mono ?_)
  rintro e w3 ⟨rfl, hb3'⟩
  have hb3 := hb2.trans (hb3'.mono hb2.size)
  go_wp2_with fail
  (with_reducible refine (shown_any w3).mono ?_)
  rintro e w5 ⟨rfl, hb5'⟩
  have hb5 := hb3.trans (hb5'.mono hb3.size)
  go_wp2_with fail
  go_ret
  exact ⟨rfl, hb5⟩
end Go.Proofs.Ythepdpfiahcfmaa
