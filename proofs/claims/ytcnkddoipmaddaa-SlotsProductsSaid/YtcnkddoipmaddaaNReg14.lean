/- The region of slots.New that appends a power of the root. -/
import Derived.Test.YtcnkddoipmaddaaNReg9
import Derived.Deep.RegionHeld3
namespace Go.Proofs.Ytcnkddoipmaddaa
open Go.RowKit
set_option linter.unusedVariables false

set_option maxRecDepth 100000 in
set_option maxHeartbeats 4000000 in
theorem nReg14 (t0 t1 t3 t4 t5 t6 t7 t9 t12 t13 t14 t15 t16 t17 t18 t19 t20 t21 t22 t23 t24 t25 t26 t27 t28 t29 t30 t31 t32 t33 t34 t35 t36 t37 t38 t39 t40 t41 t42 t43 t44 t45 t46 t47 t48 t49 t50 t51 t52 t53 t54 t55 t56 t57 t58 t59 t60 t61 t62 t63 t64 t65 t66 t67 t68 t69 t70 t71 t72 t73 t74 t75 t76 t77 t78 t79 t80 t81 t82 t83 t84 t85 t86 t87 t88 t89 t90 t91 t92 t93 t94 t95 t96 t97 t98 t99 t100 t101 t102 t103 t104 t105 t106 t107 t108 t109 t110 t111 t112 t113 t114 t115 t116 t117 t118 t119 t120 t121 t122 t123 t124 t125 t126 t127 t128 t129 t130 t131 t132 t133 t134 t135 t136 t137 t138 t139 : Value) (B n p R x i gP cP gZ cZ : Nat) (ex : Nat → Nat) (Q : Exit → Act → World → Prop) (wr : World) (hNI : NI wr B n p gP cP (R + 1) gZ cZ i (fun k => p ^ k) (fun k => x ^ k % p ^ R) ex) (hi1 : 1 ≤ i) (hi64 : i ≤ 64) (hR7 : R ≤ 7) (hxb : x < p ^ R) (hqq : p ^ R ≤ 2147483647)
    (hQ : ∀ (v72 v73 v74 v75 v76 v77 v78 v79 v80 v81 v82 v83 v84 v85 v86 v87 v88 v89 v90 v91 v92 v93 v94 v95 v96 v97 v98 v99 v100 : Value) (gg cap : Nat) (w' : World), NI w' B n p gP cP (R + 1) gg cap (i + 1) (fun k => p ^ k) (fun k => x ^ k % p ^ R) ex → Below B wr w' → Q .normal ⟨#[t0, t1, .int .i64 (R : Int), t3, t4, t5, t6, t7, .int .u32 (x : Int), t9, .pointer (some ⟨B + 1 + 1, 0, none⟩), .int .i64 (i : Int), t12, t13, t14, t15, t16, t17, t18, t19, t20, t21, t22, t23, t24, t25, t26, t27, t28, t29, t30, t31, t32, t33, t34, t35, t36, t37, t38, t39, t40, t41, t42, t43, t44, t45, t46, t47, t48, t49, t50, t51, t52, t53, t54, t55, t56, t57, t58, t59, t60, t61, t62, t63, t64, t65, t66, t67, t68, t69, t70, t71, v72, v73, v74, v75, v76, v77, v78, v79, v80, v81, v82, v83, v84, v85, v86, v87, v88, v89, v90, v91, v92, v93, v94, v95, v96, v97, v98, v99, v100, t101, t102, t103, t104, t105, t106, t107, t108, t109, t110, t111, t112, t113, t114, t115, t116, t117, t118, t119, t120, t121, t122, t123, t124, t125, t126, t127, t128, t129, t130, t131, t132, t133, t134, t135, t136, t137, t138, t139], []⟩ w') :
    Code.wp Try.prog (newReg 14) Q ⟨#[t0, t1, .int .i64 (R : Int), t3, t4, t5, t6, t7, .int .u32 (x : Int), t9, .pointer (some ⟨B + 1 + 1, 0, none⟩), .int .i64 (i : Int), t12, t13, t14, t15, t16, t17, t18, t19, t20, t21, t22, t23, t24, t25, t26, t27, t28, t29, t30, t31, t32, t33, t34, t35, t36, t37, t38, t39, t40, t41, t42, t43, t44, t45, t46, t47, t48, t49, t50, t51, t52, t53, t54, t55, t56, t57, t58, t59, t60, t61, t62, t63, t64, t65, t66, t67, t68, t69, t70, t71, t72, t73, t74, t75, t76, t77, t78, t79, t80, t81, t82, t83, t84, t85, t86, t87, t88, t89, t90, t91, t92, t93, t94, t95, t96, t97, t98, t99, t100, t101, t102, t103, t104, t105, t106, t107, t108, t109, t110, t111, t112, t113, t114, t115, t116, t117, t118, t119, t120, t121, t122, t123, t124, t125, t126, t127, t128, t129, t130, t131, t132, t133, t134, t135, t136, t137, t138, t139], []⟩ wr := by
  have kr3 : wr.cell? ⟨B + 1 + 1, 3, none⟩ = some (.slice (some ⟨gZ, 0, none⟩) i cZ) := hNI.row.cell (show 3 < 36 by omega)
  have kr2 : wr.cell? ⟨B + 1 + 1, 2, none⟩ = some (.slice (some ⟨gP, 0, none⟩) (R + 1) cP) := hNI.row.cell (show 2 < 36 by omega)
  have hltB := hNI.row.lt
  have hgPl := own_lt hNI.oP
  have hgZl := own_lt hNI.oZ
  have kg : wr.cell? ⟨gP, R, none⟩ = some (.int .u64 ((p ^ R : Nat) : Int)) := by
    rcases hNI.oP.cases with ⟨h, _⟩ | ⟨g, h, _, _, _, _, hc, _⟩
    · cases h
    · injection h with h
      injection h with h
      subst h
      have := hc R (by omega)
      rw [this]
      simp [ku, trN]
  have kz : wr.cell? ⟨gZ, i - 1, none⟩ = some (.int .u64 ((x ^ (i - 1) % p ^ R : Nat) : Int)) := by
    rcases hNI.oZ.cases with ⟨h, _⟩ | ⟨g, h, _, _, _, _, hc, _⟩
    · cases h
    · injection h with h
      injection h with h
      subst h
      have := hc (i - 1) (by omega)
      rw [this]
      simp only [ku, trN]
      rw [if_pos (by omega)]
  obtain ⟨q, hq⟩ : ∃ q, p ^ R = q := ⟨_, rfl⟩
  rw [hq] at kg kz hqq hxb
  obtain ⟨u, hu⟩ : ∃ u, x ^ (i - 1) % q = u := ⟨_, rfl⟩
  rw [hu] at kz
  have hub : u < q := by rw [← hu]; exact Nat.mod_lt _ (by omega)
  obtain ⟨mm, hmm⟩ : ∃ mm, u * x = mm := ⟨_, rfl⟩
  have hmi : (u : Int) * (x : Int) = (mm : Int) := by rw [← hmm]; simp
  have hmb : mm ≤ 4611686009837453316 := by rw [← hmm]; exact mul_lt_of hub hxb hqq
  obtain ⟨y, hy⟩ : ∃ y, mm % q = y := ⟨_, rfl⟩
  have hyi : (mm : Int) % (q : Int) = (y : Int) := by rw [← hy]; simp
  have hyt : (mm : Int).tmod (q : Int) = (y : Int) := by rw [Int.tmod_eq_emod_of_nonneg (by omega), hyi]
  have hyq : y < q := by rw [← hy]; exact Nat.mod_lt _ (by omega)
  have HY : Hid (y = x ^ i % p ^ R) := Lib.hid (by
    rw [hq, ← hy, ← hmm, ← hu, Nat.mod_mul_mod, ← Nat.pow_succ]
    congr 2
    omega)
  have hwy : IntKind.u64.wrap (y : Int) = (y : Int) := IntWalk.u64_in _ (by omega)
  have hwu : IntKind.u64.wrap (u : Int) = (u : Int) := IntWalk.u64_in _ (by omega)
  have hwx : IntKind.u64.wrap (x : Int) = (x : Int) := IntWalk.u64_in _ (by omega)
  have hwq : IntKind.u64.wrap (q : Int) = (q : Int) := IntWalk.u64_in _ (by omega)
  have hwm : IntKind.u64.wrap (mm : Int) = (mm : Int) := IntWalk.u64_in _ (by omega)
  have hwi : IntKind.i64.wrap (R : Int) = (R : Int) := IntWalk.i64_in _ (by omega)
  have hii : (i : Int) - 1 = ((i - 1 : Nat) : Int) := by omega
  have hwi2 : IntKind.i64.wrap ((i - 1 : Nat) : Int) = ((i - 1 : Nat) : Int) := IntWalk.i64_in _ (by omega)
  have hqI : ((q : Int) = 0) = False := by simp; omega
  have hqN : ((q : Int) ≠ 0) = True := by simp; omega
  have hq0 : ¬ q = 0 := by omega
  have HNI := Lib.hid hNI
  have hoa := (hNI.oZ.alloc (.cells #[Value.int .u64 (y : Int)] 61)).2
  have HOA := Lib.hid hoa
  have hR0' : 0 ≤ (R : Int) := by omega
  have hR1' : (R : Int) < (R : Int) + 1 := by omega
  have hi0' : 0 ≤ ((i - 1 : Nat) : Int) := by omega
  have hi1' : ((i - 1 : Nat) : Int) < (i : Int) := by omega
  have hi2' : i - 1 < i := by omega
  obtain ⟨i0, hi0, hz9⟩ := Option.map_eq_some_iff.1 e64u.hi
  simp only [Prod.mk.injEq] at hz9
  obtain ⟨y1, y2, y3⟩ := hz9
  have HQ := Lib.hid hQ
  clear hu hy hNI hoa hq hmm hQ
  conv => arg 2; whnf
  refine wp_region_noPanic ?_
  go_region_law (first
    | (refine step_append_lies _ (by rfl) _ _ _ (by rfl) B 61 i0 _ 1 8 e64u.ht hi0 y1 y2 y3 (by rfl) (by decide) _ i _ (by rfl) (HOA.out.drew) ⟨wr.heap.size, 0, none⟩ 1 1 [.int .u64 (y : Int)] (by rfl) (by rfl) (World.news_of_block (cs := #[.int .u64 (y : Int)]) (t := 61) (fr := (0, 0)) (heap_alloc_new wr _)) (by simp [Value.oneCell']) (by omega) (by unfold maxLen; omega) (by omega) (by simp; omega) (wr.heap.size + 1) (by simp) ?_
       intro gg cap w5 hown5 hg5 hat5 hlt5
       have HO5 := Lib.hid (own_app hown5 HY.out)
       have HR5 := Lib.hid (row_grown HNI.out.row _ hg5 HNI.out.n3.symm)
       have c5 : w5.cell? ⟨B + 1 + 1, 3, none⟩ = some (.slice (some ⟨gZ, 0, none⟩) i cZ) := HR5.out.cell (show 3 < 36 by omega)
       have f5 := HR5.out.frozen 3
       have HN5 := Lib.hid (ni_Z HNI.out hg5 hat5 HO5.out)
       clear hown5 hg5 hat5)
    | fail)
  all_goals exact NoPanic.normal (HQ.out _ _ _ _ _ _ _ _ _ _ _ _ _ _ _ _ _ _ _ _ _ _ _ _ _ _ _ _ _ gg cap _ HN5.out.1 HN5.out.2)
end Go.Proofs.Ytcnkddoipmaddaa
