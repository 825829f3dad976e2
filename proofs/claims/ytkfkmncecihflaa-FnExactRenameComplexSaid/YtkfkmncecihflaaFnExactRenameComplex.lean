/-
  The statement Rows.FnExactRenameComplexSaid: the law answers true at every input, and its arguments read afterwards as before. No further condition.
-/
import Derived.Test.YtkfkmncecihflaaRen
import Derived.Test.YtkfkmncecihflaaCxLaws
import Derived.Lib.SmallJoins
import Derived.ProofKit
import Derived.OpenShut
import Derived.ChangeOld
namespace Go.Proofs.Ytkfkmncecihflaa.fnExactRenameComplex
open Go.ChangeShapes Go.WideShapes Go.ChangeAt Go.RowKit
set_option linter.unusedVariables false

set_option maxHeartbeats 40000000 in
set_option maxRecDepth 100000 in
theorem law_c (p0 : Int) (u0 : Value) (x0 : List Int) (u1 : Value) (x1 : List Int) (w : World) (g0 : Rd w u0 (ints x0)) (g1 : Rd w u1 (ints x1)) : Calls Try.prog 8 #[cx p0 u0, u1] w fun e w' => e = .returned (.bool true) ∧ Below w.heap.size w w' := by
  obtain ⟨up0, ul0, uc0, rfl⟩ := g0.form
  unfold cx
  have la0 := g0.iln tI
  have la1 := g1.iln tI
  by_cases hbig : (1048576 : Int) < (x1.length : Int)
  · skip
    go_enter Try.func8, Try.ntmps8
    have hS0 := hid (St.start w)
    have hS1 := hid (hS0.out.boxAt p0 (.slice up0 ul0 uc0) 36 (H := w.heap.size) rfl)
    clear hS0
    have q00 : (w.alloc (.cells #[.int .i64 p0, (.slice up0 ul0 uc0)] 36)).cell? ⟨w.heap.size, 0, none⟩ = some (.int .i64 (p0)) := ((hS1.out).hd).c0
    have q01 : (w.alloc (.cells #[.int .i64 p0, (.slice up0 ul0 uc0)] 36)).cell? ⟨w.heap.size, 1, none⟩ = some (.slice up0 ul0 uc0) := ((hS1.out).hd).c1
    go_wp2_with fail
    clear q00 q01
    go_ret
    first | exact ⟨rfl, hS1.out.bel⟩ | (rw [← World.drewN_drewN]; exact ⟨rfl, hS1.out.bel⟩)
  have hx1 : (x1.length : Int) ≤ 1048576 := by omega
  have hy1 : (x1.length : Int) ≤ 1048576 := by omega
  clear hbig
  by_cases hbig : (1048576 : Int) < (x0.length : Int)
  · skip
    go_enter Try.func8, Try.ntmps8
    have hS0 := hid (St.start w)
    have hS1 := hid (hS0.out.boxAt p0 (.slice up0 ul0 uc0) 36 (H := w.heap.size) rfl)
    clear hS0
    have q00 : (w.alloc (.cells #[.int .i64 p0, (.slice up0 ul0 uc0)] 36)).cell? ⟨w.heap.size, 0, none⟩ = some (.int .i64 (p0)) := ((hS1.out).hd).c0
    have q01 : (w.alloc (.cells #[.int .i64 p0, (.slice up0 ul0 uc0)] 36)).cell? ⟨w.heap.size, 1, none⟩ = some (.slice up0 ul0 uc0) := ((hS1.out).hd).c1
    go_wp2_with fail
    clear q00 q01
    refine (szComplex_big p0 _ x0 (1048576) _ (hS1.out.old g0) (by omega) (by omega)).mono ?_
    rintro e w2 ⟨rfl, hN⟩
    have hS2 := hid (hS1.out.quiet hN)
    clear hN hS1
    have q00 : w2.cell? ⟨w.heap.size, 0, none⟩ = some (.int .i64 (p0)) := ((hS2.out).hd).c0
    have q01 : w2.cell? ⟨w.heap.size, 1, none⟩ = some (.slice up0 ul0 uc0) := ((hS2.out).hd).c1
    go_wp2_with fail
    clear q00 q01
    go_ret
    first | exact ⟨rfl, hS2.out.bel⟩ | (rw [← World.drewN_drewN]; exact ⟨rfl, hS2.out.bel⟩)
  have hx0 : (x0.length : Int) ≤ 1048576 := by omega
  have hy0 : (x0.length : Int) ≤ 1048576 := by omega
  clear hbig
  have hR : (resL (renB p0 x0 x1) (rnL x0 x1)).length ≤ 1000000 := resL_len _ _ (rnL_len _ _)
  obtain ⟨R, hRR⟩ : ∃ R, R = resL (renB p0 x0 x1) (rnL x0 x1) := ⟨_, rfl⟩
  have HR := hid hRR; rw [← hRR] at hR; clear hRR
  obtain ⟨NN, hNN⟩ : ∃ N, N = resN (renB p0 x0 x1) p0 := ⟨_, rfl⟩
  have HN := hid hNN; clear hNN
  obtain ⟨BB, hBB⟩ : ∃ B, B = renB p0 x0 x1 := ⟨_, rfl⟩
  have HBB := hid hBB; clear hBB
  have eBB : (BB != BB) = false := by simp
  go_enter Try.func8, Try.ntmps8
  have hS0 := hid (St.start w)
  have hS1 := hid (hS0.out.boxAt p0 (.slice up0 ul0 uc0) 36 (H := w.heap.size) rfl)
  clear hS0
  have q00 : (w.alloc (.cells #[.int .i64 p0, (.slice up0 ul0 uc0)] 36)).cell? ⟨w.heap.size, 0, none⟩ = some (.int .i64 (p0)) := ((hS1.out).hd).c0
  have q01 : (w.alloc (.cells #[.int .i64 p0, (.slice up0 ul0 uc0)] 36)).cell? ⟨w.heap.size, 1, none⟩ = some (.slice up0 ul0 uc0) := ((hS1.out).hd).c1
  go_wp2_with fail
  clear q00 q01
  refine (szComplex_ok p0 _ x0 (1048576) _ (hS1.out.old g0) (by omega) (by omega)).mono ?_
  rintro e w2 ⟨rfl, hN⟩
  have hS2 := hid (hS1.out.quiet hN)
  clear hN hS1
  have q00 : w2.cell? ⟨w.heap.size, 0, none⟩ = some (.int .i64 (p0)) := ((hS2.out).hd).c0
  have q01 : w2.cell? ⟨w.heap.size, 1, none⟩ = some (.slice up0 ul0 uc0) := ((hS2.out).hd).c1
  go_wp2_with fail
  clear q00 q01
  refine (toComplex_c p0 _ x0 _ (hS2.out.old g0) (by omega)).mono ?_
  rintro e w3 ⟨t0, rfl, hN⟩
  have hS3 := hid (hS2.out.call1 hN)
  clear hN hS2
  obtain ⟨t0p, t0l, t0c, rfl⟩ := hS3.out.hd.form
  try unfold cx
  have q10 : w3.cell? ⟨w.heap.size, 0, none⟩ = some (.int .i64 (p0)) := (((hS3.out).tail).hd).c0
  have q11 : w3.cell? ⟨w.heap.size, 1, none⟩ = some (.slice up0 ul0 uc0) := (((hS3.out).tail).hd).c1
  go_wp2_with fail
  clear q10 q11
  refine (toIntS_c _ x1 _ (hS3.out.old g1) (by omega)).mono ?_
  rintro e w4 ⟨t1, rfl, hN⟩
  have hS4 := hid (hS3.out.call1 hN)
  clear hN hS3
  obtain ⟨t1p, t1l, t1c, rfl⟩ := hS4.out.hd.form
  try unfold cx
  have q20 : w4.cell? ⟨w.heap.size, 0, none⟩ = some (.int .i64 (p0)) := ((((hS4.out).tail).tail).hd).c0
  have q21 : w4.cell? ⟨w.heap.size, 1, none⟩ = some (.slice up0 ul0 uc0) := ((((hS4.out).tail).tail).hd).c1
  go_wp2_with fail
  clear q20 q21
  refine (sRenameComplex_c p0 _ _ x0 x1 _ (((hS4.out).tail).hd) ((hS4.out).hd)).mono ?_
  rw [← HR.out, ← HN.out, ← HBB.out]
  rintro e w5 ⟨v0, rfl, hN⟩
  have hS5 := hid (hS4.out.call1 hN)
  clear hN hS4
  obtain ⟨v0p, v0l, v0c, rfl⟩ := hS5.out.hd.form
  try unfold cx
  have q30 : w5.cell? ⟨w.heap.size, 0, none⟩ = some (.int .i64 (p0)) := (((((hS5.out).tail).tail).tail).hd).c0
  have q31 : w5.cell? ⟨w.heap.size, 1, none⟩ = some (.slice up0 ul0 uc0) := (((((hS5.out).tail).tail).tail).hd).c1
  have hS6 := hid (hS5.out.box (NN) (.slice v0p v0l v0c) 38)
  have qq00 := ((hS6.out).hd).c0
  have qq01 := ((hS6.out).hd).c1
  have qq40 := ((((((hS6.out).tail).tail).tail).tail).hd).c0
  have qq41 := ((((((hS6.out).tail).tail).tail).tail).hd).c1
  go_wp2_with fail
  clear q30 q31 qq00 qq01 qq40 qq41 hS5
  refine (toComplex_c p0 _ x0 _ (hS6.out.old g0) (by omega)).mono ?_
  rintro e w7 ⟨y0, rfl, hN⟩
  have hS7 := hid (hS6.out.call1 hN)
  clear hN hS6
  obtain ⟨y0p, y0l, y0c, rfl⟩ := hS7.out.hd.form
  try unfold cx
  have q10 : w7.cell? ⟨w5.heap.size, 0, none⟩ = some (.int .i64 (NN)) := (((hS7.out).tail).hd).c0
  have q11 : w7.cell? ⟨w5.heap.size, 1, none⟩ = some (.slice v0p v0l v0c) := (((hS7.out).tail).hd).c1
  have q50 : w7.cell? ⟨w.heap.size, 0, none⟩ = some (.int .i64 (p0)) := (((((((hS7.out).tail).tail).tail).tail).tail).hd).c0
  have q51 : w7.cell? ⟨w.heap.size, 1, none⟩ = some (.slice up0 ul0 uc0) := (((((((hS7.out).tail).tail).tail).tail).tail).hd).c1
  have hS8 := hid (hS7.out.box (p0) (.slice y0p y0l y0c) 38)
  have qq00 := ((hS8.out).hd).c0
  have qq01 := ((hS8.out).hd).c1
  have qq20 := ((((hS8.out).tail).tail).hd).c0
  have qq21 := ((((hS8.out).tail).tail).hd).c1
  have qq60 := ((((((((hS8.out).tail).tail).tail).tail).tail).tail).hd).c0
  have qq61 := ((((((((hS8.out).tail).tail).tail).tail).tail).tail).hd).c1
  go_wp2_with fail
  clear q10 q11 q50 q51 qq00 qq01 qq20 qq21 qq60 qq61 hS7
  refine (toIntS_c _ x1 _ (hS8.out.old g1) (by omega)).mono ?_
  rintro e w9 ⟨y1, rfl, hN⟩
  have hS9 := hid (hS8.out.call1 hN)
  clear hN hS8
  obtain ⟨y1p, y1l, y1c, rfl⟩ := hS9.out.hd.form
  try unfold cx
  have q10 : w9.cell? ⟨w7.heap.size, 0, none⟩ = some (.int .i64 (p0)) := (((hS9.out).tail).hd).c0
  have q11 : w9.cell? ⟨w7.heap.size, 1, none⟩ = some (.slice y0p y0l y0c) := (((hS9.out).tail).hd).c1
  have q30 : w9.cell? ⟨w5.heap.size, 0, none⟩ = some (.int .i64 (NN)) := (((((hS9.out).tail).tail).tail).hd).c0
  have q31 : w9.cell? ⟨w5.heap.size, 1, none⟩ = some (.slice v0p v0l v0c) := (((((hS9.out).tail).tail).tail).hd).c1
  have q70 : w9.cell? ⟨w.heap.size, 0, none⟩ = some (.int .i64 (p0)) := (((((((((hS9.out).tail).tail).tail).tail).tail).tail).tail).hd).c0
  have q71 : w9.cell? ⟨w.heap.size, 1, none⟩ = some (.slice up0 ul0 uc0) := (((((((((hS9.out).tail).tail).tail).tail).tail).tail).tail).hd).c1
  go_wp2_with fail
  clear q10 q11 q30 q31 q70 q71
  refine (RenameComplex_c p0 _ _ x0 x1 _ ((((hS9.out).tail).tail).hd) ((hS9.out).hd)).mono ?_
  rw [← HR.out, ← HN.out, ← HBB.out]
  rintro e w10 ⟨r0, rfl, hN⟩
  have hS10 := hid (hS9.out.call1 hN)
  clear hN hS9
  obtain ⟨r0p, r0l, r0c, rfl⟩ := hS10.out.hd.form
  try unfold cx
  have q20 : w10.cell? ⟨w7.heap.size, 0, none⟩ = some (.int .i64 (p0)) := ((((hS10.out).tail).tail).hd).c0
  have q21 : w10.cell? ⟨w7.heap.size, 1, none⟩ = some (.slice y0p y0l y0c) := ((((hS10.out).tail).tail).hd).c1
  have q40 : w10.cell? ⟨w5.heap.size, 0, none⟩ = some (.int .i64 (NN)) := ((((((hS10.out).tail).tail).tail).tail).hd).c0
  have q41 : w10.cell? ⟨w5.heap.size, 1, none⟩ = some (.slice v0p v0l v0c) := ((((((hS10.out).tail).tail).tail).tail).hd).c1
  have q80 : w10.cell? ⟨w.heap.size, 0, none⟩ = some (.int .i64 (p0)) := ((((((((((hS10.out).tail).tail).tail).tail).tail).tail).tail).tail).hd).c0
  have q81 : w10.cell? ⟨w.heap.size, 1, none⟩ = some (.slice up0 ul0 uc0) := ((((((((((hS10.out).tail).tail).tail).tail).tail).tail).tail).tail).hd).c1
  have hS11 := hid (hS10.out.box (NN) (.slice r0p r0l r0c) 38)
  have qq00 := ((hS11.out).hd).c0
  have qq01 := ((hS11.out).hd).c1
  have qq30 := (((((hS11.out).tail).tail).tail).hd).c0
  have qq31 := (((((hS11.out).tail).tail).tail).hd).c1
  have qq50 := (((((((hS11.out).tail).tail).tail).tail).tail).hd).c0
  have qq51 := (((((((hS11.out).tail).tail).tail).tail).tail).hd).c1
  have qq90 := (((((((((((hS11.out).tail).tail).tail).tail).tail).tail).tail).tail).tail).hd).c0
  have qq91 := (((((((((((hS11.out).tail).tail).tail).tail).tail).tail).tail).tail).tail).hd).c1
  go_wp2_with fail
  clear q20 q21 q40 q41 q80 q81 qq00 qq01 qq30 qq31 qq50 qq51 qq90 qq91 hS10
  refine (eqComplex_c (NN) _ _ (R) _ (((hS11.out).tail).hd) ((((((((hS11.out).tail).tail).tail).tail).tail).tail).hd)).mono ?_
  rintro e w12 ⟨rfl, hN⟩
  have hS12 := hid (hS11.out.quiet hN)
  clear hN hS11
  have q00 : w12.cell? ⟨w10.heap.size, 0, none⟩ = some (.int .i64 (NN)) := ((hS12.out).hd).c0
  have q01 : w12.cell? ⟨w10.heap.size, 1, none⟩ = some (.slice r0p r0l r0c) := ((hS12.out).hd).c1
  have q30 : w12.cell? ⟨w7.heap.size, 0, none⟩ = some (.int .i64 (p0)) := (((((hS12.out).tail).tail).tail).hd).c0
  have q31 : w12.cell? ⟨w7.heap.size, 1, none⟩ = some (.slice y0p y0l y0c) := (((((hS12.out).tail).tail).tail).hd).c1
  have q50 : w12.cell? ⟨w5.heap.size, 0, none⟩ = some (.int .i64 (NN)) := (((((((hS12.out).tail).tail).tail).tail).tail).hd).c0
  have q51 : w12.cell? ⟨w5.heap.size, 1, none⟩ = some (.slice v0p v0l v0c) := (((((((hS12.out).tail).tail).tail).tail).tail).hd).c1
  have q90 : w12.cell? ⟨w.heap.size, 0, none⟩ = some (.int .i64 (p0)) := (((((((((((hS12.out).tail).tail).tail).tail).tail).tail).tail).tail).tail).hd).c0
  have q91 : w12.cell? ⟨w.heap.size, 1, none⟩ = some (.slice up0 ul0 uc0) := (((((((((((hS12.out).tail).tail).tail).tail).tail).tail).tail).tail).tail).hd).c1
  go_wp2_with fail
  go_region_with (first | (go_at_call 30; refine (toComplex_c p0 _ x0 _ ((hS12.out.drewN 1).old g0) (by omega)).mono ?_; rintro e wz ⟨zz, rfl, hNz⟩; have hZ := (hS12.out.drewN 1).call1 hNz; obtain ⟨zp, zl, zc, rfl⟩ := hZ.hd.form; have z00 := (((hZ).tail).hd).c0; have z01 := (((hZ).tail).hd).c1; have z30 := ((((((hZ).tail).tail).tail).tail).hd).c0; have z31 := ((((((hZ).tail).tail).tail).tail).hd).c1; have z50 := ((((((((hZ).tail).tail).tail).tail).tail).tail).hd).c0; have z51 := ((((((((hZ).tail).tail).tail).tail).tail).tail).hd).c1; have z90 := ((((((((((((hZ).tail).tail).tail).tail).tail).tail).tail).tail).tail).tail).hd).c0; have z91 := ((((((((((((hZ).tail).tail).tail).tail).tail).tail).tail).tail).tail).tail).hd).c1) | (go_at_call 33; refine (eqComplex_c p0 _ _ x0 _ ((((((hZ).tail).tail).tail).tail).tail).hd hZ.hd).mono ?_; rintro e wy ⟨rfl, hNy⟩; have hY := (hZ.quiet hNy).tail))
  all_goals
    have hS13 := hid hY
    clear hY hS12 q00 q01 q30 q31 q50 q51 q90 q91
    have q00 : wy.cell? ⟨w10.heap.size, 0, none⟩ = some (.int .i64 (NN)) := ((hS13.out).hd).c0
    have q01 : wy.cell? ⟨w10.heap.size, 1, none⟩ = some (.slice r0p r0l r0c) := ((hS13.out).hd).c1
    have q30 : wy.cell? ⟨w7.heap.size, 0, none⟩ = some (.int .i64 (p0)) := (((((hS13.out).tail).tail).tail).hd).c0
    have q31 : wy.cell? ⟨w7.heap.size, 1, none⟩ = some (.slice y0p y0l y0c) := (((((hS13.out).tail).tail).tail).hd).c1
    have q50 : wy.cell? ⟨w5.heap.size, 0, none⟩ = some (.int .i64 (NN)) := (((((((hS13.out).tail).tail).tail).tail).tail).hd).c0
    have q51 : wy.cell? ⟨w5.heap.size, 1, none⟩ = some (.slice v0p v0l v0c) := (((((((hS13.out).tail).tail).tail).tail).tail).hd).c1
    have q90 : wy.cell? ⟨w.heap.size, 0, none⟩ = some (.int .i64 (p0)) := (((((((((((hS13.out).tail).tail).tail).tail).tail).tail).tail).tail).tail).hd).c0
    have q91 : wy.cell? ⟨w.heap.size, 1, none⟩ = some (.slice up0 ul0 uc0) := (((((((((((hS13.out).tail).tail).tail).tail).tail).tail).tail).tail).tail).hd).c1
    go_wp2_with fail
    clear q00 q01 q30 q31 q50 q51 q90 q91
    refine (toIntS_c _ x1 _ (hS13.out.old g1) (by omega)).mono ?_
    rintro e w14 ⟨z1, rfl, hN⟩
    have hS14 := hid (hS13.out.call1 hN)
    clear hN hS13
    obtain ⟨z1p, z1l, z1c, rfl⟩ := hS14.out.hd.form
    try unfold cx
    have q10 : w14.cell? ⟨w10.heap.size, 0, none⟩ = some (.int .i64 (NN)) := (((hS14.out).tail).hd).c0
    have q11 : w14.cell? ⟨w10.heap.size, 1, none⟩ = some (.slice r0p r0l r0c) := (((hS14.out).tail).hd).c1
    have q40 : w14.cell? ⟨w7.heap.size, 0, none⟩ = some (.int .i64 (p0)) := ((((((hS14.out).tail).tail).tail).tail).hd).c0
    have q41 : w14.cell? ⟨w7.heap.size, 1, none⟩ = some (.slice y0p y0l y0c) := ((((((hS14.out).tail).tail).tail).tail).hd).c1
    have q60 : w14.cell? ⟨w5.heap.size, 0, none⟩ = some (.int .i64 (NN)) := ((((((((hS14.out).tail).tail).tail).tail).tail).tail).hd).c0
    have q61 : w14.cell? ⟨w5.heap.size, 1, none⟩ = some (.slice v0p v0l v0c) := ((((((((hS14.out).tail).tail).tail).tail).tail).tail).hd).c1
    have q100 : w14.cell? ⟨w.heap.size, 0, none⟩ = some (.int .i64 (p0)) := ((((((((((((hS14.out).tail).tail).tail).tail).tail).tail).tail).tail).tail).tail).hd).c0
    have q101 : w14.cell? ⟨w.heap.size, 1, none⟩ = some (.slice up0 ul0 uc0) := ((((((((((((hS14.out).tail).tail).tail).tail).tail).tail).tail).tail).tail).tail).hd).c1
    go_wp2_with fail
    clear q10 q11 q40 q41 q60 q61 q100 q101
    refine (eqIntS_c _ _ (x1) (x1) _ (((((hS14.out).tail).tail).tail).hd) ((hS14.out).hd)).mono ?_
    rintro e _ ⟨rfl, n15, hN⟩
    subst hN
    have hS15 := hid (hS14.out.drewN n15)
    clear hS14
    have q10 : w14.cell? ⟨w10.heap.size, 0, none⟩ = some (.int .i64 (NN)) := (((hS15.out).tail).hd).c0
    have q11 : w14.cell? ⟨w10.heap.size, 1, none⟩ = some (.slice r0p r0l r0c) := (((hS15.out).tail).hd).c1
    have q40 : w14.cell? ⟨w7.heap.size, 0, none⟩ = some (.int .i64 (p0)) := ((((((hS15.out).tail).tail).tail).tail).hd).c0
    have q41 : w14.cell? ⟨w7.heap.size, 1, none⟩ = some (.slice y0p y0l y0c) := ((((((hS15.out).tail).tail).tail).tail).hd).c1
    have q60 : w14.cell? ⟨w5.heap.size, 0, none⟩ = some (.int .i64 (NN)) := ((((((((hS15.out).tail).tail).tail).tail).tail).tail).hd).c0
    have q61 : w14.cell? ⟨w5.heap.size, 1, none⟩ = some (.slice v0p v0l v0c) := ((((((((hS15.out).tail).tail).tail).tail).tail).tail).hd).c1
    have q100 : w14.cell? ⟨w.heap.size, 0, none⟩ = some (.int .i64 (p0)) := ((((((((((((hS15.out).tail).tail).tail).tail).tail).tail).tail).tail).tail).tail).hd).c0
    have q101 : w14.cell? ⟨w.heap.size, 1, none⟩ = some (.slice up0 ul0 uc0) := ((((((((((((hS15.out).tail).tail).tail).tail).tail).tail).tail).tail).tail).tail).hd).c1
    go_wp2_with fail
    clear q10 q11 q40 q41 q60 q61 q100 q101
    have hS16 := hid (hS15.out.perm ((List.Perm.cons _ ((List.Perm.cons _ ((List.Perm.cons _ ((List.Perm.cons _ ((List.Perm.cons _ (List.Perm.refl _)).trans (List.Perm.swap _ _ _))).trans (List.Perm.swap _ _ _))).trans (List.Perm.swap _ _ _))).trans (List.Perm.swap _ _ _))).trans (List.Perm.swap _ _ _)))
    clear hS15
    refine (markComplex_c (p0) _ _ (1) _ _ _ hS16.out.own (ints_cells _) (by omega) (by simp; omega)).mono ?_
    rintro e w17 ⟨rfl, hO, hN⟩
    rw [length_ints] at hO ⊢
    have hS17 := hid (hS16.out.mut hO hN)
    clear hO hN hS16
    have q20 : w17.cell? ⟨w10.heap.size, 0, none⟩ = some (.int .i64 (NN)) := ((((hS17.out).tail).tail).hd).c0
    have q21 : w17.cell? ⟨w10.heap.size, 1, none⟩ = some (.slice r0p r0l r0c) := ((((hS17.out).tail).tail).hd).c1
    have q50 : w17.cell? ⟨w7.heap.size, 0, none⟩ = some (.int .i64 (p0)) := (((((((hS17.out).tail).tail).tail).tail).tail).hd).c0
    have q51 : w17.cell? ⟨w7.heap.size, 1, none⟩ = some (.slice y0p y0l y0c) := (((((((hS17.out).tail).tail).tail).tail).tail).hd).c1
    have q60 : w17.cell? ⟨w5.heap.size, 0, none⟩ = some (.int .i64 (NN)) := ((((((((hS17.out).tail).tail).tail).tail).tail).tail).hd).c0
    have q61 : w17.cell? ⟨w5.heap.size, 1, none⟩ = some (.slice v0p v0l v0c) := ((((((((hS17.out).tail).tail).tail).tail).tail).tail).hd).c1
    have q100 : w17.cell? ⟨w.heap.size, 0, none⟩ = some (.int .i64 (p0)) := ((((((((((((hS17.out).tail).tail).tail).tail).tail).tail).tail).tail).tail).tail).hd).c0
    have q101 : w17.cell? ⟨w.heap.size, 1, none⟩ = some (.slice up0 ul0 uc0) := ((((((((((((hS17.out).tail).tail).tail).tail).tail).tail).tail).tail).tail).tail).hd).c1
    go_wp2_with fail
    clear q20 q21 q50 q51 q60 q61 q100 q101
    have hS18 := hid (hS17.out.perm ((List.Perm.cons _ ((List.Perm.cons _ ((List.Perm.cons _ ((List.Perm.cons _ (List.Perm.refl _)).trans (List.Perm.swap _ _ _))).trans (List.Perm.swap _ _ _))).trans (List.Perm.swap _ _ _))).trans (List.Perm.swap _ _ _)))
    clear hS17
    refine (markIntS_c _ _ (1 + (x0.length : Int)) _ _ _ hS18.out.own (ints_cells _) (by omega) (by simp; omega)).mono ?_
    rintro e w19 ⟨rfl, hO, hN⟩
    rw [length_ints] at hO ⊢
    have hS19 := hid (hS18.out.mut hO hN)
    clear hO hN hS18
    have q30 : w19.cell? ⟨w10.heap.size, 0, none⟩ = some (.int .i64 (NN)) := (((((hS19.out).tail).tail).tail).hd).c0
    have q31 : w19.cell? ⟨w10.heap.size, 1, none⟩ = some (.slice r0p r0l r0c) := (((((hS19.out).tail).tail).tail).hd).c1
    have q50 : w19.cell? ⟨w7.heap.size, 0, none⟩ = some (.int .i64 (p0)) := (((((((hS19.out).tail).tail).tail).tail).tail).hd).c0
    have q51 : w19.cell? ⟨w7.heap.size, 1, none⟩ = some (.slice y0p y0l y0c) := (((((((hS19.out).tail).tail).tail).tail).tail).hd).c1
    have q60 : w19.cell? ⟨w5.heap.size, 0, none⟩ = some (.int .i64 (NN)) := ((((((((hS19.out).tail).tail).tail).tail).tail).tail).hd).c0
    have q61 : w19.cell? ⟨w5.heap.size, 1, none⟩ = some (.slice v0p v0l v0c) := ((((((((hS19.out).tail).tail).tail).tail).tail).tail).hd).c1
    have q100 : w19.cell? ⟨w.heap.size, 0, none⟩ = some (.int .i64 (p0)) := ((((((((((((hS19.out).tail).tail).tail).tail).tail).tail).tail).tail).tail).tail).hd).c0
    have q101 : w19.cell? ⟨w.heap.size, 1, none⟩ = some (.slice up0 ul0 uc0) := ((((((((((((hS19.out).tail).tail).tail).tail).tail).tail).tail).tail).tail).tail).hd).c1
    go_wp2_with fail
    clear q30 q31 q50 q51 q60 q61 q100 q101
    refine (eqComplex_c (NN) _ _ (R) _ ((((((hS19.out).tail).tail).tail).tail).hd) (((((((((hS19.out).tail).tail).tail).tail).tail).tail).tail).hd)).mono ?_
    rintro e w20 ⟨rfl, hN⟩
    have hS20 := hid (hS19.out.quiet hN)
    clear hN hS19
    have q30 : w20.cell? ⟨w10.heap.size, 0, none⟩ = some (.int .i64 (NN)) := (((((hS20.out).tail).tail).tail).hd).c0
    have q31 : w20.cell? ⟨w10.heap.size, 1, none⟩ = some (.slice r0p r0l r0c) := (((((hS20.out).tail).tail).tail).hd).c1
    have q50 : w20.cell? ⟨w7.heap.size, 0, none⟩ = some (.int .i64 (p0)) := (((((((hS20.out).tail).tail).tail).tail).tail).hd).c0
    have q51 : w20.cell? ⟨w7.heap.size, 1, none⟩ = some (.slice y0p y0l y0c) := (((((((hS20.out).tail).tail).tail).tail).tail).hd).c1
    have q60 : w20.cell? ⟨w5.heap.size, 0, none⟩ = some (.int .i64 (NN)) := ((((((((hS20.out).tail).tail).tail).tail).tail).tail).hd).c0
    have q61 : w20.cell? ⟨w5.heap.size, 1, none⟩ = some (.slice v0p v0l v0c) := ((((((((hS20.out).tail).tail).tail).tail).tail).tail).hd).c1
    have q100 : w20.cell? ⟨w.heap.size, 0, none⟩ = some (.int .i64 (p0)) := ((((((((((((hS20.out).tail).tail).tail).tail).tail).tail).tail).tail).tail).tail).hd).c0
    have q101 : w20.cell? ⟨w.heap.size, 1, none⟩ = some (.slice up0 ul0 uc0) := ((((((((((((hS20.out).tail).tail).tail).tail).tail).tail).tail).tail).tail).tail).hd).c1
    go_wp2_with fail
    clear q30 q31 q50 q51 q60 q61 q100 q101
    have hS21 := hid (hS20.out.perm ((List.Perm.cons _ ((List.Perm.cons _ ((List.Perm.cons _ ((List.Perm.cons _ (List.Perm.refl _)).trans (List.Perm.swap _ _ _))).trans (List.Perm.swap _ _ _))).trans (List.Perm.swap _ _ _))).trans (List.Perm.swap _ _ _)))
    clear hS20
    refine (markComplex_c (NN) _ _ (1) _ _ _ hS21.out.own (ints_cells _) (by omega) (by simp; omega)).mono ?_
    rintro e w22 ⟨rfl, hO, hN⟩
    rw [length_ints] at hO ⊢
    have hS22 := hid (hS21.out.mut hO hN)
    clear hO hN hS21
    have q40 : w22.cell? ⟨w10.heap.size, 0, none⟩ = some (.int .i64 (NN)) := ((((((hS22.out).tail).tail).tail).tail).hd).c0
    have q41 : w22.cell? ⟨w10.heap.size, 1, none⟩ = some (.slice r0p r0l r0c) := ((((((hS22.out).tail).tail).tail).tail).hd).c1
    have q50 : w22.cell? ⟨w7.heap.size, 0, none⟩ = some (.int .i64 (p0)) := (((((((hS22.out).tail).tail).tail).tail).tail).hd).c0
    have q51 : w22.cell? ⟨w7.heap.size, 1, none⟩ = some (.slice y0p y0l y0c) := (((((((hS22.out).tail).tail).tail).tail).tail).hd).c1
    have q60 : w22.cell? ⟨w5.heap.size, 0, none⟩ = some (.int .i64 (NN)) := ((((((((hS22.out).tail).tail).tail).tail).tail).tail).hd).c0
    have q61 : w22.cell? ⟨w5.heap.size, 1, none⟩ = some (.slice v0p v0l v0c) := ((((((((hS22.out).tail).tail).tail).tail).tail).tail).hd).c1
    have q100 : w22.cell? ⟨w.heap.size, 0, none⟩ = some (.int .i64 (p0)) := ((((((((((((hS22.out).tail).tail).tail).tail).tail).tail).tail).tail).tail).tail).hd).c0
    have q101 : w22.cell? ⟨w.heap.size, 1, none⟩ = some (.slice up0 ul0 uc0) := ((((((((((((hS22.out).tail).tail).tail).tail).tail).tail).tail).tail).tail).tail).hd).c1
    go_wp2_with fail
    clear q40 q41 q50 q51 q60 q61 q100 q101
    refine (heldComplex_c (NN) _ 1 (R).length _ ((hS22.out).hd) (by omega) (by omega)).mono ?_
    rintro e w23 ⟨rfl, hN⟩
    have hS23 := hid (hS22.out.quiet hN)
    clear hN hS22
    have q40 : w23.cell? ⟨w10.heap.size, 0, none⟩ = some (.int .i64 (NN)) := ((((((hS23.out).tail).tail).tail).tail).hd).c0
    have q41 : w23.cell? ⟨w10.heap.size, 1, none⟩ = some (.slice r0p r0l r0c) := ((((((hS23.out).tail).tail).tail).tail).hd).c1
    have q50 : w23.cell? ⟨w7.heap.size, 0, none⟩ = some (.int .i64 (p0)) := (((((((hS23.out).tail).tail).tail).tail).tail).hd).c0
    have q51 : w23.cell? ⟨w7.heap.size, 1, none⟩ = some (.slice y0p y0l y0c) := (((((((hS23.out).tail).tail).tail).tail).tail).hd).c1
    have q60 : w23.cell? ⟨w5.heap.size, 0, none⟩ = some (.int .i64 (NN)) := ((((((((hS23.out).tail).tail).tail).tail).tail).tail).hd).c0
    have q61 : w23.cell? ⟨w5.heap.size, 1, none⟩ = some (.slice v0p v0l v0c) := ((((((((hS23.out).tail).tail).tail).tail).tail).tail).hd).c1
    have q100 : w23.cell? ⟨w.heap.size, 0, none⟩ = some (.int .i64 (p0)) := ((((((((((((hS23.out).tail).tail).tail).tail).tail).tail).tail).tail).tail).tail).hd).c0
    have q101 : w23.cell? ⟨w.heap.size, 1, none⟩ = some (.slice up0 ul0 uc0) := ((((((((((((hS23.out).tail).tail).tail).tail).tail).tail).tail).tail).tail).tail).hd).c1
    go_wp2_with fail
    clear q40 q41 q50 q51 q60 q61 q100 q101
    refine (toComplex_c p0 _ x0 _ (hS23.out.old g0) (by omega)).mono ?_
    rintro e w24 ⟨s0, rfl, hN⟩
    have hS24 := hid (hS23.out.call1 hN)
    clear hN hS23
    obtain ⟨s0p, s0l, s0c, rfl⟩ := hS24.out.hd.form
    try unfold cx
    have q50 : w24.cell? ⟨w10.heap.size, 0, none⟩ = some (.int .i64 (NN)) := (((((((hS24.out).tail).tail).tail).tail).tail).hd).c0
    have q51 : w24.cell? ⟨w10.heap.size, 1, none⟩ = some (.slice r0p r0l r0c) := (((((((hS24.out).tail).tail).tail).tail).tail).hd).c1
    have q60 : w24.cell? ⟨w7.heap.size, 0, none⟩ = some (.int .i64 (p0)) := ((((((((hS24.out).tail).tail).tail).tail).tail).tail).hd).c0
    have q61 : w24.cell? ⟨w7.heap.size, 1, none⟩ = some (.slice y0p y0l y0c) := ((((((((hS24.out).tail).tail).tail).tail).tail).tail).hd).c1
    have q70 : w24.cell? ⟨w5.heap.size, 0, none⟩ = some (.int .i64 (NN)) := (((((((((hS24.out).tail).tail).tail).tail).tail).tail).tail).hd).c0
    have q71 : w24.cell? ⟨w5.heap.size, 1, none⟩ = some (.slice v0p v0l v0c) := (((((((((hS24.out).tail).tail).tail).tail).tail).tail).tail).hd).c1
    have q110 : w24.cell? ⟨w.heap.size, 0, none⟩ = some (.int .i64 (p0)) := (((((((((((((hS24.out).tail).tail).tail).tail).tail).tail).tail).tail).tail).tail).tail).hd).c0
    have q111 : w24.cell? ⟨w.heap.size, 1, none⟩ = some (.slice up0 ul0 uc0) := (((((((((((((hS24.out).tail).tail).tail).tail).tail).tail).tail).tail).tail).tail).tail).hd).c1
    go_wp2_with fail
    clear q50 q51 q60 q61 q70 q71 q110 q111
    refine (toIntS_c _ x1 _ (hS24.out.old g1) (by omega)).mono ?_
    rintro e w25 ⟨s1, rfl, hN⟩
    have hS25 := hid (hS24.out.call1 hN)
    clear hN hS24
    obtain ⟨s1p, s1l, s1c, rfl⟩ := hS25.out.hd.form
    try unfold cx
    have q60 : w25.cell? ⟨w10.heap.size, 0, none⟩ = some (.int .i64 (NN)) := ((((((((hS25.out).tail).tail).tail).tail).tail).tail).hd).c0
    have q61 : w25.cell? ⟨w10.heap.size, 1, none⟩ = some (.slice r0p r0l r0c) := ((((((((hS25.out).tail).tail).tail).tail).tail).tail).hd).c1
    have q70 : w25.cell? ⟨w7.heap.size, 0, none⟩ = some (.int .i64 (p0)) := (((((((((hS25.out).tail).tail).tail).tail).tail).tail).tail).hd).c0
    have q71 : w25.cell? ⟨w7.heap.size, 1, none⟩ = some (.slice y0p y0l y0c) := (((((((((hS25.out).tail).tail).tail).tail).tail).tail).tail).hd).c1
    have q80 : w25.cell? ⟨w5.heap.size, 0, none⟩ = some (.int .i64 (NN)) := ((((((((((hS25.out).tail).tail).tail).tail).tail).tail).tail).tail).hd).c0
    have q81 : w25.cell? ⟨w5.heap.size, 1, none⟩ = some (.slice v0p v0l v0c) := ((((((((((hS25.out).tail).tail).tail).tail).tail).tail).tail).tail).hd).c1
    have q120 : w25.cell? ⟨w.heap.size, 0, none⟩ = some (.int .i64 (p0)) := ((((((((((((((hS25.out).tail).tail).tail).tail).tail).tail).tail).tail).tail).tail).tail).tail).hd).c0
    have q121 : w25.cell? ⟨w.heap.size, 1, none⟩ = some (.slice up0 ul0 uc0) := ((((((((((((((hS25.out).tail).tail).tail).tail).tail).tail).tail).tail).tail).tail).tail).tail).hd).c1
    go_wp2_with fail
    clear q60 q61 q70 q71 q80 q81 q120 q121
    refine (RenameComplex_c p0 _ _ x0 x1 _ (((hS25.out).tail).hd) ((hS25.out).hd)).mono ?_
    rw [← HR.out, ← HN.out, ← HBB.out]
    rintro e w26 ⟨h0, rfl, hN⟩
    have hS26 := hid (hS25.out.call1 hN)
    clear hN hS25
    obtain ⟨h0p, h0l, h0c, rfl⟩ := hS26.out.hd.form
    try unfold cx
    have q70 : w26.cell? ⟨w10.heap.size, 0, none⟩ = some (.int .i64 (NN)) := (((((((((hS26.out).tail).tail).tail).tail).tail).tail).tail).hd).c0
    have q71 : w26.cell? ⟨w10.heap.size, 1, none⟩ = some (.slice r0p r0l r0c) := (((((((((hS26.out).tail).tail).tail).tail).tail).tail).tail).hd).c1
    have q80 : w26.cell? ⟨w7.heap.size, 0, none⟩ = some (.int .i64 (p0)) := ((((((((((hS26.out).tail).tail).tail).tail).tail).tail).tail).tail).hd).c0
    have q81 : w26.cell? ⟨w7.heap.size, 1, none⟩ = some (.slice y0p y0l y0c) := ((((((((((hS26.out).tail).tail).tail).tail).tail).tail).tail).tail).hd).c1
    have q90 : w26.cell? ⟨w5.heap.size, 0, none⟩ = some (.int .i64 (NN)) := (((((((((((hS26.out).tail).tail).tail).tail).tail).tail).tail).tail).tail).hd).c0
    have q91 : w26.cell? ⟨w5.heap.size, 1, none⟩ = some (.slice v0p v0l v0c) := (((((((((((hS26.out).tail).tail).tail).tail).tail).tail).tail).tail).tail).hd).c1
    have q130 : w26.cell? ⟨w.heap.size, 0, none⟩ = some (.int .i64 (p0)) := (((((((((((((((hS26.out).tail).tail).tail).tail).tail).tail).tail).tail).tail).tail).tail).tail).tail).hd).c0
    have q131 : w26.cell? ⟨w.heap.size, 1, none⟩ = some (.slice up0 ul0 uc0) := (((((((((((((((hS26.out).tail).tail).tail).tail).tail).tail).tail).tail).tail).tail).tail).tail).tail).hd).c1
    have hS27 := hid (hS26.out.box (NN) (.slice h0p h0l h0c) 38)
    have qq00 := ((hS27.out).hd).c0
    have qq01 := ((hS27.out).hd).c1
    have qq80 := ((((((((((hS27.out).tail).tail).tail).tail).tail).tail).tail).tail).hd).c0
    have qq81 := ((((((((((hS27.out).tail).tail).tail).tail).tail).tail).tail).tail).hd).c1
    have qq90 := (((((((((((hS27.out).tail).tail).tail).tail).tail).tail).tail).tail).tail).hd).c0
    have qq91 := (((((((((((hS27.out).tail).tail).tail).tail).tail).tail).tail).tail).tail).hd).c1
    have qq100 := ((((((((((((hS27.out).tail).tail).tail).tail).tail).tail).tail).tail).tail).tail).hd).c0
    have qq101 := ((((((((((((hS27.out).tail).tail).tail).tail).tail).tail).tail).tail).tail).tail).hd).c1
    have qq140 := ((((((((((((((((hS27.out).tail).tail).tail).tail).tail).tail).tail).tail).tail).tail).tail).tail).tail).tail).hd).c0
    have qq141 := ((((((((((((((((hS27.out).tail).tail).tail).tail).tail).tail).tail).tail).tail).tail).tail).tail).tail).tail).hd).c1
    go_wp2_with fail
    clear q70 q71 q80 q81 q90 q91 q130 q131 qq00 qq01 qq80 qq81 qq90 qq91 qq100 qq101 qq140 qq141 hS26
    refine (eqComplex_c (NN) _ _ (R) _ (((hS27.out).tail).hd) (((((((((((((hS27.out).tail).tail).tail).tail).tail).tail).tail).tail).tail).tail).tail).hd)).mono ?_
    rintro e w28 ⟨rfl, hN⟩
    have hS28 := hid (hS27.out.quiet hN)
    clear hN hS27
    have q00 : w28.cell? ⟨w26.heap.size, 0, none⟩ = some (.int .i64 (NN)) := ((hS28.out).hd).c0
    have q01 : w28.cell? ⟨w26.heap.size, 1, none⟩ = some (.slice h0p h0l h0c) := ((hS28.out).hd).c1
    have q80 : w28.cell? ⟨w10.heap.size, 0, none⟩ = some (.int .i64 (NN)) := ((((((((((hS28.out).tail).tail).tail).tail).tail).tail).tail).tail).hd).c0
    have q81 : w28.cell? ⟨w10.heap.size, 1, none⟩ = some (.slice r0p r0l r0c) := ((((((((((hS28.out).tail).tail).tail).tail).tail).tail).tail).tail).hd).c1
    have q90 : w28.cell? ⟨w7.heap.size, 0, none⟩ = some (.int .i64 (p0)) := (((((((((((hS28.out).tail).tail).tail).tail).tail).tail).tail).tail).tail).hd).c0
    have q91 : w28.cell? ⟨w7.heap.size, 1, none⟩ = some (.slice y0p y0l y0c) := (((((((((((hS28.out).tail).tail).tail).tail).tail).tail).tail).tail).tail).hd).c1
    have q100 : w28.cell? ⟨w5.heap.size, 0, none⟩ = some (.int .i64 (NN)) := ((((((((((((hS28.out).tail).tail).tail).tail).tail).tail).tail).tail).tail).tail).hd).c0
    have q101 : w28.cell? ⟨w5.heap.size, 1, none⟩ = some (.slice v0p v0l v0c) := ((((((((((((hS28.out).tail).tail).tail).tail).tail).tail).tail).tail).tail).tail).hd).c1
    have q140 : w28.cell? ⟨w.heap.size, 0, none⟩ = some (.int .i64 (p0)) := ((((((((((((((((hS28.out).tail).tail).tail).tail).tail).tail).tail).tail).tail).tail).tail).tail).tail).tail).hd).c0
    have q141 : w28.cell? ⟨w.heap.size, 1, none⟩ = some (.slice up0 ul0 uc0) := ((((((((((((((((hS28.out).tail).tail).tail).tail).tail).tail).tail).tail).tail).tail).tail).tail).tail).tail).hd).c1
    go_wp2_with fail
    clear q00 q01 q80 q81 q90 q91 q100 q101 q140 q141
    refine (heldComplex_c (NN) _ 1 (R).length _ ((((((hS28.out).tail).tail).tail).tail).hd) (by omega) (by omega)).mono ?_
    rintro e w29 ⟨rfl, hN⟩
    have hS29 := hid (hS28.out.quiet hN)
    clear hN hS28
    have q00 : w29.cell? ⟨w26.heap.size, 0, none⟩ = some (.int .i64 (NN)) := ((hS29.out).hd).c0
    have q01 : w29.cell? ⟨w26.heap.size, 1, none⟩ = some (.slice h0p h0l h0c) := ((hS29.out).hd).c1
    have q80 : w29.cell? ⟨w10.heap.size, 0, none⟩ = some (.int .i64 (NN)) := ((((((((((hS29.out).tail).tail).tail).tail).tail).tail).tail).tail).hd).c0
    have q81 : w29.cell? ⟨w10.heap.size, 1, none⟩ = some (.slice r0p r0l r0c) := ((((((((((hS29.out).tail).tail).tail).tail).tail).tail).tail).tail).hd).c1
    have q90 : w29.cell? ⟨w7.heap.size, 0, none⟩ = some (.int .i64 (p0)) := (((((((((((hS29.out).tail).tail).tail).tail).tail).tail).tail).tail).tail).hd).c0
    have q91 : w29.cell? ⟨w7.heap.size, 1, none⟩ = some (.slice y0p y0l y0c) := (((((((((((hS29.out).tail).tail).tail).tail).tail).tail).tail).tail).tail).hd).c1
    have q100 : w29.cell? ⟨w5.heap.size, 0, none⟩ = some (.int .i64 (NN)) := ((((((((((((hS29.out).tail).tail).tail).tail).tail).tail).tail).tail).tail).tail).hd).c0
    have q101 : w29.cell? ⟨w5.heap.size, 1, none⟩ = some (.slice v0p v0l v0c) := ((((((((((((hS29.out).tail).tail).tail).tail).tail).tail).tail).tail).tail).tail).hd).c1
    have q140 : w29.cell? ⟨w.heap.size, 0, none⟩ = some (.int .i64 (p0)) := ((((((((((((((((hS29.out).tail).tail).tail).tail).tail).tail).tail).tail).tail).tail).tail).tail).tail).tail).hd).c0
    have q141 : w29.cell? ⟨w.heap.size, 1, none⟩ = some (.slice up0 ul0 uc0) := ((((((((((((((((hS29.out).tail).tail).tail).tail).tail).tail).tail).tail).tail).tail).tail).tail).tail).tail).hd).c1
    go_wp2_with fail
    clear q00 q01 q80 q81 q90 q91 q100 q101 q140 q141
    go_ret
    first | exact ⟨rfl, hS29.out.bel⟩ | (rw [← World.drewN_drewN]; exact ⟨rfl, hS29.out.bel⟩)

theorem own : ownKnob Try.prog.godebug = none := by kernel_rfl
theorem laidOut : laidOutB Try.prog = true := by kernel_rfl

set_option maxRecDepth 100000 in
theorem lifted (os : Os) (started : os.Started) (H : Type) (enc : TypeId × Value → H) :
    ReturnsInHanded {} Try.checked os 8 .any (Rows.fnExactRenameComplexSpec.pre6 enc Try.prog Try.f8 Rows.fnExactRenameComplexRow.domain false) (Rows.fnExactRenameComplexSpec.post enc Try.prog Try.f8 false true false false) := by
  refine returnsInHanded_of_change (C := Try.checked) own started (by kernel_rfl) Try.func8
    (ChangeSpec.witness6 (enc := enc) (C := Try.checked) false ⟨#[], #[.agg #[.int .i64 0, .slice none 0 0], .slice none 0 0], []⟩ 8 (by kernel_rfl) (by kernel_rfl) (by kernel_rfl) (by kernel_rfl)) ?_
  intro W base args ds gs before hval0 hW hcnd _
  have hval : ∀ (j : Nat) t v, Try.f8.params[j]? = some t → args[j]? = some v → Value.okWide Try.prog W .any base t v := hval0
  have hW' := hW
  obtain ⟨p, q, hA0, hV, rfl, hfz, hnd⟩ := hW
  have hA : DataW.TrodAll enc Try.prog W 0 (fun _ => true) true Try.f8.params.toList args.toList ds p := hA0
  rw [Try.params8] at hA hval
  obtain ⟨v0, vs0, d0, ds0, p0, q0, hargs, rfl, rfl, h0, r0⟩ := trodAll_cons hA
  obtain ⟨v1, vs1, d1, ds1, p1, q1, rfl, rfl, rfl, h1, r1⟩ := trodAll_cons r0
  obtain ⟨rfl, rfl, rfl⟩ := trodAll_nil r1
  obtain rfl : args = #[v0, v1] := by cases args; simp_all
  obtain ⟨rfl, rfl⟩ := trodVars_none hV
  have k0 := h0
  have lt0 : ∀ x ∈ p0, x.block < W.heap.size := by obtain ⟨m, hm⟩ := k0; exact DataW.trod_lt m _ _ _ hm
  obtain ⟨b0, c0, y0, y0', n0, rfl, _, _, i0, m0⟩ := Go.Joins.open_agg2 Try.underlying36 (by kernel_rfl) (by kernel_rfl) (hval 0 36 v0 rfl rfl) h0
  obtain ⟨a0, hc0, _⟩ := DataW.trod_int Try.underlying3 i0
  obtain rfl : b0 = .int .i64 a0 := by simpa using hc0
  obtain ⟨z0, g0⟩ : ∃ zs, Rd W c0 (ints zs) := by
    rcases open_ints Try.underlying34 Try.underlying3 (by kernel_rfl) m0 with ⟨hcs, _⟩ | ⟨x, l, c, zs, hcs, _, hl, hm, hz, _, hcell, _⟩
    · obtain rfl : c0 = .slice none 0 0 := by simpa using hcs
      exact ⟨[], .inl ⟨rfl, rfl⟩⟩
    · obtain rfl : c0 = .slice (some x) l c := by simpa using hcs
      exact ⟨_, rd_of_open hl hm (by simp at hz; omega) hcell⟩
  obtain ⟨s1, len1, cap1, rfl⟩ := okWide_slice Try.underlying34 (hval 1 34 v1 rfl rfl)
  have k1 := h1
  have lt1 : ∀ x ∈ p1, x.block < W.heap.size := by obtain ⟨m, hm⟩ := k1; exact DataW.trod_lt m _ _ _ hm
  obtain ⟨z1, g1⟩ : ∃ zs, Rd W (.slice s1 len1 cap1) (ints zs) := by
    obtain ⟨fuel, hf⟩ := h1
    rcases open_ints Try.underlying34 Try.underlying3 (by kernel_rfl) hf with ⟨hcs, _⟩ | ⟨x, l, c, zs, hcs, _, hl, hm, hz, _, hcell, _⟩
    · simp [Value.cells] at hcs
      obtain ⟨rfl, rfl, rfl⟩ := hcs
      exact ⟨[], .inl ⟨rfl, rfl⟩⟩
    · simp [Value.cells] at hcs
      obtain ⟨rfl, rfl, rfl⟩ := hcs
      exact ⟨_, rd_of_open hl hm (by simp at hz; omega) hcell⟩
  clear hA0 hval0
  refine (law_c a0 _ z0 _ z1 W g0 g1).mono fun e W' ⟨he, bel⟩ => ?_
  subst he
  exact ⟨_, rfl, _, _, _, [], _, [], hW', trodAll_mk1 (shut_bool Try.underlying4 _), (trodAll_cons_mk (Below.trod laidOut (by kernel_rfl) (of_decide_eq_true (by kernel_rfl)) k0 bel lt0) (trodAll_cons_mk (Below.trod laidOut (by kernel_rfl) (of_decide_eq_true (by kernel_rfl)) k1 bel lt1) trodAll_mk0)), rfl, bel.frame _, fun h => by cases h⟩

theorem over : Rows.fnExactRenameComplexRow.holds Try.pinned (OpenSpec.ofChange Rows.fnExactRenameComplexSpec) :=
  OpenClaim.holds_of_wide 8 Try.f8 rfl rfl rfl rfl rfl rfl rfl ⟨rfl, rfl, rfl, rfl, rfl⟩ rfl rfl rfl rfl rfl (by kernel_rfl) Try.func8 (by kernel_rfl)
    (of_decide_eq_true (by kernel_rfl)) (by unfold Func.isWrapper; first | (rw [if_pos (by decide +kernel)]; kernel_rfl) | (rw [if_neg (by decide +kernel)]; exact ⟨rfl, rfl⟩))
    (fun os started H enc _ => lifted os started H enc)

theorem proved : Rows.FnExactRenameComplexSaid :=
  over
end Go.Proofs.Ytkfkmncecihflaa.fnExactRenameComplex
