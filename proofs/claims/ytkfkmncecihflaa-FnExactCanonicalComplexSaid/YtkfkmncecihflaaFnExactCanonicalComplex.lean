/-
  The statement Rows.FnExactCanonicalComplexSaid: the law answers true at every input, and its arguments read afterwards as before. No further condition.
-/
import Derived.Test.YtkfkmncecihflaaCan2
import Derived.Test.YtkfkmncecihflaaCxLaws
import Derived.Lib.SmallJoins
import Derived.ProofKit
import Derived.OpenShut
import Derived.ChangeOld
namespace Go.Proofs.Ytkfkmncecihflaa.fnExactCanonicalComplex
open Go.ChangeShapes Go.WideShapes Go.ChangeAt Go.RowKit
set_option linter.unusedVariables false

set_option maxHeartbeats 8000000 in
set_option maxRecDepth 100000 in
theorem law_c (p0 : Int) (u0 : Value) (x0 : List Int) (w : World) (g0 : Rd w u0 (ints x0)) : Calls Try.prog 11 #[cx p0 u0] w fun e w' => e = .returned (.bool true) ∧ Below w.heap.size w w' := by
  have hR : (resL (isC p0 x0) (canL p0 x0)).length ≤ 1000000 := can_len _ _
  obtain ⟨R, hRR⟩ : ∃ R, R = resL (isC p0 x0) (canL p0 x0) := ⟨_, rfl⟩
  have HR := hid hRR; rw [← hRR] at hR; clear hRR
  obtain ⟨NN, hNN⟩ : ∃ N, N = resN (isC p0 x0) p0 := ⟨_, rfl⟩
  have HN := hid hNN; clear hNN
  obtain ⟨BB, hBB⟩ : ∃ B, B = isC p0 x0 := ⟨_, rfl⟩
  have HBB := hid hBB; clear hBB
  have eBB : (BB != BB) = false := by simp
  obtain ⟨up0, ul0, uc0, rfl⟩ := g0.form
  unfold cx
  have la0 := g0.iln tI
  by_cases hbig : (1048576 : Int) < x0.length
  · skip
    go_enter Try.func11, Try.ntmps11
    have hS0 := St.start w
    have hS1 := hS0.boxAt p0 (.slice up0 ul0 uc0) 36 (H := w.heap.size) rfl
    clear hS0
    have q00 : (w.alloc (.cells #[.int .i64 p0, (.slice up0 ul0 uc0)] 36)).cell? ⟨w.heap.size, 0, none⟩ = some (.int .i64 (p0)) := ((hS1.hd)).c0
    have q01 : (w.alloc (.cells #[.int .i64 p0, (.slice up0 ul0 uc0)] 36)).cell? ⟨w.heap.size, 1, none⟩ = some (.slice up0 ul0 uc0) := ((hS1.hd)).c1
    go_wp2_with fail
    clear q00 q01
    refine (szComplex_big p0 _ x0 (1048576) _ (hS1.old g0) (by omega) (by omega)).mono ?_
    rintro e w2 ⟨rfl, hN⟩
    have hS2 := hS1.quiet hN
    clear hN hS1
    have q00 : w2.cell? ⟨w.heap.size, 0, none⟩ = some (.int .i64 (p0)) := ((hS2.hd)).c0
    have q01 : w2.cell? ⟨w.heap.size, 1, none⟩ = some (.slice up0 ul0 uc0) := ((hS2.hd)).c1
    go_wp2_with fail
    clear q00 q01
    go_ret
    first | exact ⟨rfl, hS2.bel⟩ | (rw [← World.drewN_drewN]; exact ⟨rfl, hS2.bel⟩)
  have hx0 : x0.length ≤ 1048576 := by omega
  have hy0 : (x0.length : Int) ≤ 1048576 := by omega
  clear hbig
  go_enter Try.func11, Try.ntmps11
  have hS0 := St.start w
  have hS1 := hS0.boxAt p0 (.slice up0 ul0 uc0) 36 (H := w.heap.size) rfl
  clear hS0
  have q00 : (w.alloc (.cells #[.int .i64 p0, (.slice up0 ul0 uc0)] 36)).cell? ⟨w.heap.size, 0, none⟩ = some (.int .i64 (p0)) := ((hS1.hd)).c0
  have q01 : (w.alloc (.cells #[.int .i64 p0, (.slice up0 ul0 uc0)] 36)).cell? ⟨w.heap.size, 1, none⟩ = some (.slice up0 ul0 uc0) := ((hS1.hd)).c1
  go_wp2_with fail
  clear q00 q01
  refine (szComplex_ok p0 _ x0 (1048576) _ (hS1.old g0) (by omega) (by omega)).mono ?_
  rintro e w2 ⟨rfl, hN⟩
  have hS2 := hS1.quiet hN
  clear hN hS1
  have q00 : w2.cell? ⟨w.heap.size, 0, none⟩ = some (.int .i64 (p0)) := ((hS2.hd)).c0
  have q01 : w2.cell? ⟨w.heap.size, 1, none⟩ = some (.slice up0 ul0 uc0) := ((hS2.hd)).c1
  go_wp2_with fail
  clear q00 q01
  refine (toComplex_c p0 _ x0 _ (hS2.old g0) (by omega)).mono ?_
  rintro e w3 ⟨t0, rfl, hN⟩
  have hS3 := hS2.call1 hN
  clear hN hS2
  obtain ⟨t0p, t0l, t0c, rfl⟩ := hS3.hd.form
  try unfold cx
  have q10 : w3.cell? ⟨w.heap.size, 0, none⟩ = some (.int .i64 (p0)) := ((hS3.hd2)).c0
  have q11 : w3.cell? ⟨w.heap.size, 1, none⟩ = some (.slice up0 ul0 uc0) := ((hS3.hd2)).c1
  go_wp2_with fail
  clear q10 q11
  refine (sCanonicalComplex_c p0 _ x0 _ (hS3.hd)).mono ?_
  rw [← HR.out, ← HN.out, ← HBB.out]
  rintro e w4 ⟨v0, rfl, hN⟩
  have hS4 := hS3.call1 hN
  clear hN hS3
  obtain ⟨v0p, v0l, v0c, rfl⟩ := hS4.hd.form
  try unfold cx
  have q20 : w4.cell? ⟨w.heap.size, 0, none⟩ = some (.int .i64 (p0)) := ((hS4.hd3)).c0
  have q21 : w4.cell? ⟨w.heap.size, 1, none⟩ = some (.slice up0 ul0 uc0) := ((hS4.hd3)).c1
  have hS5 := hS4.box (NN) (.slice v0p v0l v0c) 38
  have qq00 := ((hS5.hd)).c0
  have qq01 := ((hS5.hd)).c1
  have qq30 := ((hS5.hd4)).c0
  have qq31 := ((hS5.hd4)).c1
  go_wp2_with fail
  clear q20 q21 qq00 qq01 qq30 qq31 hS4
  refine (toComplex_c p0 _ x0 _ (hS5.old g0) (by omega)).mono ?_
  rintro e w6 ⟨y0, rfl, hN⟩
  have hS6 := hS5.call1 hN
  clear hN hS5
  obtain ⟨y0p, y0l, y0c, rfl⟩ := hS6.hd.form
  try unfold cx
  have q10 : w6.cell? ⟨w4.heap.size, 0, none⟩ = some (.int .i64 (NN)) := ((hS6.hd2)).c0
  have q11 : w6.cell? ⟨w4.heap.size, 1, none⟩ = some (.slice v0p v0l v0c) := ((hS6.hd2)).c1
  have q40 : w6.cell? ⟨w.heap.size, 0, none⟩ = some (.int .i64 (p0)) := ((hS6.hd5)).c0
  have q41 : w6.cell? ⟨w.heap.size, 1, none⟩ = some (.slice up0 ul0 uc0) := ((hS6.hd5)).c1
  have hS7 := hS6.box (p0) (.slice y0p y0l y0c) 38
  have qq00 := ((hS7.hd)).c0
  have qq01 := ((hS7.hd)).c1
  have qq20 := ((hS7.hd3)).c0
  have qq21 := ((hS7.hd3)).c1
  have qq50 := ((hS7.hd6)).c0
  have qq51 := ((hS7.hd6)).c1
  go_wp2_with fail
  clear q10 q11 q40 q41 qq00 qq01 qq20 qq21 qq50 qq51 hS6
  refine (CanonicalComplex_c p0 _ x0 _ (hS7.hd2)).mono ?_
  rw [← HR.out, ← HN.out, ← HBB.out]
  rintro e w8 ⟨r0, rfl, hN⟩
  have hS8 := hS7.call1 hN
  clear hN hS7
  obtain ⟨r0p, r0l, r0c, rfl⟩ := hS8.hd.form
  try unfold cx
  have q10 : w8.cell? ⟨w6.heap.size, 0, none⟩ = some (.int .i64 (p0)) := ((hS8.hd2)).c0
  have q11 : w8.cell? ⟨w6.heap.size, 1, none⟩ = some (.slice y0p y0l y0c) := ((hS8.hd2)).c1
  have q30 : w8.cell? ⟨w4.heap.size, 0, none⟩ = some (.int .i64 (NN)) := ((hS8.hd4)).c0
  have q31 : w8.cell? ⟨w4.heap.size, 1, none⟩ = some (.slice v0p v0l v0c) := ((hS8.hd4)).c1
  have q60 : w8.cell? ⟨w.heap.size, 0, none⟩ = some (.int .i64 (p0)) := ((hS8.hd7)).c0
  have q61 : w8.cell? ⟨w.heap.size, 1, none⟩ = some (.slice up0 ul0 uc0) := ((hS8.hd7)).c1
  have hS9 := hS8.box (NN) (.slice r0p r0l r0c) 38
  have qq00 := ((hS9.hd)).c0
  have qq01 := ((hS9.hd)).c1
  have qq20 := ((hS9.hd3)).c0
  have qq21 := ((hS9.hd3)).c1
  have qq40 := ((hS9.hd5)).c0
  have qq41 := ((hS9.hd5)).c1
  have qq70 := ((hS9.hd8)).c0
  have qq71 := ((hS9.hd8)).c1
  go_wp2_with fail
  clear q10 q11 q30 q31 q60 q61 qq00 qq01 qq20 qq21 qq40 qq41 qq70 qq71 hS8
  refine (eqComplex_c (NN) _ _ (R) _ (hS9.hd2) (hS9.hd6)).mono ?_
  rintro e w10 ⟨rfl, hN⟩
  have hS10 := hS9.quiet hN
  clear hN hS9
  have q00 : w10.cell? ⟨w8.heap.size, 0, none⟩ = some (.int .i64 (NN)) := ((hS10.hd)).c0
  have q01 : w10.cell? ⟨w8.heap.size, 1, none⟩ = some (.slice r0p r0l r0c) := ((hS10.hd)).c1
  have q20 : w10.cell? ⟨w6.heap.size, 0, none⟩ = some (.int .i64 (p0)) := ((hS10.hd3)).c0
  have q21 : w10.cell? ⟨w6.heap.size, 1, none⟩ = some (.slice y0p y0l y0c) := ((hS10.hd3)).c1
  have q40 : w10.cell? ⟨w4.heap.size, 0, none⟩ = some (.int .i64 (NN)) := ((hS10.hd5)).c0
  have q41 : w10.cell? ⟨w4.heap.size, 1, none⟩ = some (.slice v0p v0l v0c) := ((hS10.hd5)).c1
  have q70 : w10.cell? ⟨w.heap.size, 0, none⟩ = some (.int .i64 (p0)) := ((hS10.hd8)).c0
  have q71 : w10.cell? ⟨w.heap.size, 1, none⟩ = some (.slice up0 ul0 uc0) := ((hS10.hd8)).c1
  go_wp2_with fail
  go_region_with (first | (go_at_call 30; refine (toComplex_c p0 _ x0 _ ((hS10.drewN 1).old g0) (by omega)).mono ?_; rintro e wz ⟨zz, rfl, hNz⟩; have hZ := (hS10.drewN 1).call1 hNz; obtain ⟨zp, zl, zc, rfl⟩ := hZ.hd.form; have z00 := ((hZ.hd2)).c0; have z01 := ((hZ.hd2)).c1; have z20 := ((hZ.hd4)).c0; have z21 := ((hZ.hd4)).c1; have z40 := ((hZ.hd6)).c0; have z41 := ((hZ.hd6)).c1; have z70 := ((hZ.hd9)).c0; have z71 := ((hZ.hd9)).c1) | (go_at_call 33; refine (eqComplex_c p0 _ _ x0 _ (hZ.hd5) hZ.hd).mono ?_; rintro e wy ⟨rfl, hNy⟩; have hY := (hZ.quiet hNy).tail))
  all_goals
    have hS11 := hY
    clear hY hS10 q00 q01 q20 q21 q40 q41 q70 q71
    have q00 : wy.cell? ⟨w8.heap.size, 0, none⟩ = some (.int .i64 (NN)) := ((hS11.hd)).c0
    have q01 : wy.cell? ⟨w8.heap.size, 1, none⟩ = some (.slice r0p r0l r0c) := ((hS11.hd)).c1
    have q20 : wy.cell? ⟨w6.heap.size, 0, none⟩ = some (.int .i64 (p0)) := ((hS11.hd3)).c0
    have q21 : wy.cell? ⟨w6.heap.size, 1, none⟩ = some (.slice y0p y0l y0c) := ((hS11.hd3)).c1
    have q40 : wy.cell? ⟨w4.heap.size, 0, none⟩ = some (.int .i64 (NN)) := ((hS11.hd5)).c0
    have q41 : wy.cell? ⟨w4.heap.size, 1, none⟩ = some (.slice v0p v0l v0c) := ((hS11.hd5)).c1
    have q70 : wy.cell? ⟨w.heap.size, 0, none⟩ = some (.int .i64 (p0)) := ((hS11.hd8)).c0
    have q71 : wy.cell? ⟨w.heap.size, 1, none⟩ = some (.slice up0 ul0 uc0) := ((hS11.hd8)).c1
    go_wp2_with fail
    clear q00 q01 q20 q21 q40 q41 q70 q71
    have hS12 := hS11.bring (l1 := [_, _, _])
    clear hS11
    simp only [List.cons_append, List.nil_append] at hS12
    refine (markComplex_c (p0) _ _ 1 _ _ _ hS12.own (ints_cells _) (by omega) (by simp; omega)).mono ?_
    rintro e w13 ⟨rfl, hO, hN⟩
    rw [length_ints] at hO ⊢
    have hS13 := hS12.mut hO hN
    clear hO hN hS12
    have q10 : w13.cell? ⟨w8.heap.size, 0, none⟩ = some (.int .i64 (NN)) := ((hS13.hd2)).c0
    have q11 : w13.cell? ⟨w8.heap.size, 1, none⟩ = some (.slice r0p r0l r0c) := ((hS13.hd2)).c1
    have q30 : w13.cell? ⟨w6.heap.size, 0, none⟩ = some (.int .i64 (p0)) := ((hS13.hd4)).c0
    have q31 : w13.cell? ⟨w6.heap.size, 1, none⟩ = some (.slice y0p y0l y0c) := ((hS13.hd4)).c1
    have q40 : w13.cell? ⟨w4.heap.size, 0, none⟩ = some (.int .i64 (NN)) := ((hS13.hd5)).c0
    have q41 : w13.cell? ⟨w4.heap.size, 1, none⟩ = some (.slice v0p v0l v0c) := ((hS13.hd5)).c1
    have q70 : w13.cell? ⟨w.heap.size, 0, none⟩ = some (.int .i64 (p0)) := ((hS13.hd8)).c0
    have q71 : w13.cell? ⟨w.heap.size, 1, none⟩ = some (.slice up0 ul0 uc0) := ((hS13.hd8)).c1
    go_wp2_with fail
    clear q10 q11 q30 q31 q40 q41 q70 q71
    refine (eqComplex_c (NN) _ _ (R) _ (hS13.hd3) (hS13.hd6)).mono ?_
    rintro e w14 ⟨rfl, hN⟩
    have hS14 := hS13.quiet hN
    clear hN hS13
    have q10 : w14.cell? ⟨w8.heap.size, 0, none⟩ = some (.int .i64 (NN)) := ((hS14.hd2)).c0
    have q11 : w14.cell? ⟨w8.heap.size, 1, none⟩ = some (.slice r0p r0l r0c) := ((hS14.hd2)).c1
    have q30 : w14.cell? ⟨w6.heap.size, 0, none⟩ = some (.int .i64 (p0)) := ((hS14.hd4)).c0
    have q31 : w14.cell? ⟨w6.heap.size, 1, none⟩ = some (.slice y0p y0l y0c) := ((hS14.hd4)).c1
    have q40 : w14.cell? ⟨w4.heap.size, 0, none⟩ = some (.int .i64 (NN)) := ((hS14.hd5)).c0
    have q41 : w14.cell? ⟨w4.heap.size, 1, none⟩ = some (.slice v0p v0l v0c) := ((hS14.hd5)).c1
    have q70 : w14.cell? ⟨w.heap.size, 0, none⟩ = some (.int .i64 (p0)) := ((hS14.hd8)).c0
    have q71 : w14.cell? ⟨w.heap.size, 1, none⟩ = some (.slice up0 ul0 uc0) := ((hS14.hd8)).c1
    go_wp2_with fail
    clear q10 q11 q30 q31 q40 q41 q70 q71
    have hS15 := hS14.bring (l1 := [_, _])
    clear hS14
    simp only [List.cons_append, List.nil_append] at hS15
    refine (markComplex_c (NN) _ _ 1 _ _ _ hS15.own (ints_cells _) (by omega) (by simp; omega)).mono ?_
    rintro e w16 ⟨rfl, hO, hN⟩
    rw [length_ints] at hO ⊢
    have hS16 := hS15.mut hO hN
    clear hO hN hS15
    have q20 : w16.cell? ⟨w8.heap.size, 0, none⟩ = some (.int .i64 (NN)) := ((hS16.hd3)).c0
    have q21 : w16.cell? ⟨w8.heap.size, 1, none⟩ = some (.slice r0p r0l r0c) := ((hS16.hd3)).c1
    have q30 : w16.cell? ⟨w6.heap.size, 0, none⟩ = some (.int .i64 (p0)) := ((hS16.hd4)).c0
    have q31 : w16.cell? ⟨w6.heap.size, 1, none⟩ = some (.slice y0p y0l y0c) := ((hS16.hd4)).c1
    have q40 : w16.cell? ⟨w4.heap.size, 0, none⟩ = some (.int .i64 (NN)) := ((hS16.hd5)).c0
    have q41 : w16.cell? ⟨w4.heap.size, 1, none⟩ = some (.slice v0p v0l v0c) := ((hS16.hd5)).c1
    have q70 : w16.cell? ⟨w.heap.size, 0, none⟩ = some (.int .i64 (p0)) := ((hS16.hd8)).c0
    have q71 : w16.cell? ⟨w.heap.size, 1, none⟩ = some (.slice up0 ul0 uc0) := ((hS16.hd8)).c1
    go_wp2_with fail
    clear q20 q21 q30 q31 q40 q41 q70 q71
    refine (heldComplex_c (NN) _ 1 (R).length _ (hS16.hd) (by omega) (by omega)).mono ?_
    rintro e w17 ⟨rfl, hN⟩
    have hS17 := hS16.quiet hN
    clear hN hS16
    have q20 : w17.cell? ⟨w8.heap.size, 0, none⟩ = some (.int .i64 (NN)) := ((hS17.hd3)).c0
    have q21 : w17.cell? ⟨w8.heap.size, 1, none⟩ = some (.slice r0p r0l r0c) := ((hS17.hd3)).c1
    have q30 : w17.cell? ⟨w6.heap.size, 0, none⟩ = some (.int .i64 (p0)) := ((hS17.hd4)).c0
    have q31 : w17.cell? ⟨w6.heap.size, 1, none⟩ = some (.slice y0p y0l y0c) := ((hS17.hd4)).c1
    have q40 : w17.cell? ⟨w4.heap.size, 0, none⟩ = some (.int .i64 (NN)) := ((hS17.hd5)).c0
    have q41 : w17.cell? ⟨w4.heap.size, 1, none⟩ = some (.slice v0p v0l v0c) := ((hS17.hd5)).c1
    have q70 : w17.cell? ⟨w.heap.size, 0, none⟩ = some (.int .i64 (p0)) := ((hS17.hd8)).c0
    have q71 : w17.cell? ⟨w.heap.size, 1, none⟩ = some (.slice up0 ul0 uc0) := ((hS17.hd8)).c1
    go_wp2_with fail
    clear q20 q21 q30 q31 q40 q41 q70 q71
    refine (toComplex_c p0 _ x0 _ (hS17.old g0) (by omega)).mono ?_
    rintro e w18 ⟨s0, rfl, hN⟩
    have hS18 := hS17.call1 hN
    clear hN hS17
    obtain ⟨s0p, s0l, s0c, rfl⟩ := hS18.hd.form
    try unfold cx
    have q30 : w18.cell? ⟨w8.heap.size, 0, none⟩ = some (.int .i64 (NN)) := ((hS18.hd4)).c0
    have q31 : w18.cell? ⟨w8.heap.size, 1, none⟩ = some (.slice r0p r0l r0c) := ((hS18.hd4)).c1
    have q40 : w18.cell? ⟨w6.heap.size, 0, none⟩ = some (.int .i64 (p0)) := ((hS18.hd5)).c0
    have q41 : w18.cell? ⟨w6.heap.size, 1, none⟩ = some (.slice y0p y0l y0c) := ((hS18.hd5)).c1
    have q50 : w18.cell? ⟨w4.heap.size, 0, none⟩ = some (.int .i64 (NN)) := ((hS18.hd6)).c0
    have q51 : w18.cell? ⟨w4.heap.size, 1, none⟩ = some (.slice v0p v0l v0c) := ((hS18.hd6)).c1
    have q80 : w18.cell? ⟨w.heap.size, 0, none⟩ = some (.int .i64 (p0)) := ((hS18.hd9)).c0
    have q81 : w18.cell? ⟨w.heap.size, 1, none⟩ = some (.slice up0 ul0 uc0) := ((hS18.hd9)).c1
    go_wp2_with fail
    clear q30 q31 q40 q41 q50 q51 q80 q81
    refine (CanonicalComplex_c p0 _ x0 _ (hS18.hd)).mono ?_
    rw [← HR.out, ← HN.out, ← HBB.out]
    rintro e w19 ⟨h0, rfl, hN⟩
    have hS19 := hS18.call1 hN
    clear hN hS18
    obtain ⟨h0p, h0l, h0c, rfl⟩ := hS19.hd.form
    try unfold cx
    have q40 : w19.cell? ⟨w8.heap.size, 0, none⟩ = some (.int .i64 (NN)) := ((hS19.hd5)).c0
    have q41 : w19.cell? ⟨w8.heap.size, 1, none⟩ = some (.slice r0p r0l r0c) := ((hS19.hd5)).c1
    have q50 : w19.cell? ⟨w6.heap.size, 0, none⟩ = some (.int .i64 (p0)) := ((hS19.hd6)).c0
    have q51 : w19.cell? ⟨w6.heap.size, 1, none⟩ = some (.slice y0p y0l y0c) := ((hS19.hd6)).c1
    have q60 : w19.cell? ⟨w4.heap.size, 0, none⟩ = some (.int .i64 (NN)) := ((hS19.hd7)).c0
    have q61 : w19.cell? ⟨w4.heap.size, 1, none⟩ = some (.slice v0p v0l v0c) := ((hS19.hd7)).c1
    have q90 : w19.cell? ⟨w.heap.size, 0, none⟩ = some (.int .i64 (p0)) := ((hS19.hd10)).c0
    have q91 : w19.cell? ⟨w.heap.size, 1, none⟩ = some (.slice up0 ul0 uc0) := ((hS19.hd10)).c1
    have hS20 := hS19.box (NN) (.slice h0p h0l h0c) 38
    have qq00 := ((hS20.hd)).c0
    have qq01 := ((hS20.hd)).c1
    have qq50 := ((hS20.hd6)).c0
    have qq51 := ((hS20.hd6)).c1
    have qq60 := ((hS20.hd7)).c0
    have qq61 := ((hS20.hd7)).c1
    have qq70 := ((hS20.hd8)).c0
    have qq71 := ((hS20.hd8)).c1
    have qq100 := ((hS20.hd11)).c0
    have qq101 := ((hS20.hd11)).c1
    go_wp2_with fail
    clear q40 q41 q50 q51 q60 q61 q90 q91 qq00 qq01 qq50 qq51 qq60 qq61 qq70 qq71 qq100 qq101 hS19
    refine (eqComplex_c (NN) _ _ (R) _ (hS20.hd2) (hS20.hd9)).mono ?_
    rintro e w21 ⟨rfl, hN⟩
    have hS21 := hS20.quiet hN
    clear hN hS20
    have q00 : w21.cell? ⟨w19.heap.size, 0, none⟩ = some (.int .i64 (NN)) := ((hS21.hd)).c0
    have q01 : w21.cell? ⟨w19.heap.size, 1, none⟩ = some (.slice h0p h0l h0c) := ((hS21.hd)).c1
    have q50 : w21.cell? ⟨w8.heap.size, 0, none⟩ = some (.int .i64 (NN)) := ((hS21.hd6)).c0
    have q51 : w21.cell? ⟨w8.heap.size, 1, none⟩ = some (.slice r0p r0l r0c) := ((hS21.hd6)).c1
    have q60 : w21.cell? ⟨w6.heap.size, 0, none⟩ = some (.int .i64 (p0)) := ((hS21.hd7)).c0
    have q61 : w21.cell? ⟨w6.heap.size, 1, none⟩ = some (.slice y0p y0l y0c) := ((hS21.hd7)).c1
    have q70 : w21.cell? ⟨w4.heap.size, 0, none⟩ = some (.int .i64 (NN)) := ((hS21.hd8)).c0
    have q71 : w21.cell? ⟨w4.heap.size, 1, none⟩ = some (.slice v0p v0l v0c) := ((hS21.hd8)).c1
    have q100 : w21.cell? ⟨w.heap.size, 0, none⟩ = some (.int .i64 (p0)) := ((hS21.hd11)).c0
    have q101 : w21.cell? ⟨w.heap.size, 1, none⟩ = some (.slice up0 ul0 uc0) := ((hS21.hd11)).c1
    go_wp2_with fail
    clear q00 q01 q50 q51 q60 q61 q70 q71 q100 q101
    refine (heldComplex_c (NN) _ 1 (R).length _ (hS21.hd4) (by omega) (by omega)).mono ?_
    rintro e w22 ⟨rfl, hN⟩
    have hS22 := hS21.quiet hN
    clear hN hS21
    have q00 : w22.cell? ⟨w19.heap.size, 0, none⟩ = some (.int .i64 (NN)) := ((hS22.hd)).c0
    have q01 : w22.cell? ⟨w19.heap.size, 1, none⟩ = some (.slice h0p h0l h0c) := ((hS22.hd)).c1
    have q50 : w22.cell? ⟨w8.heap.size, 0, none⟩ = some (.int .i64 (NN)) := ((hS22.hd6)).c0
    have q51 : w22.cell? ⟨w8.heap.size, 1, none⟩ = some (.slice r0p r0l r0c) := ((hS22.hd6)).c1
    have q60 : w22.cell? ⟨w6.heap.size, 0, none⟩ = some (.int .i64 (p0)) := ((hS22.hd7)).c0
    have q61 : w22.cell? ⟨w6.heap.size, 1, none⟩ = some (.slice y0p y0l y0c) := ((hS22.hd7)).c1
    have q70 : w22.cell? ⟨w4.heap.size, 0, none⟩ = some (.int .i64 (NN)) := ((hS22.hd8)).c0
    have q71 : w22.cell? ⟨w4.heap.size, 1, none⟩ = some (.slice v0p v0l v0c) := ((hS22.hd8)).c1
    have q100 : w22.cell? ⟨w.heap.size, 0, none⟩ = some (.int .i64 (p0)) := ((hS22.hd11)).c0
    have q101 : w22.cell? ⟨w.heap.size, 1, none⟩ = some (.slice up0 ul0 uc0) := ((hS22.hd11)).c1
    go_wp2_with fail
    clear q00 q01 q50 q51 q60 q61 q70 q71 q100 q101
    go_ret
    first | exact ⟨rfl, hS22.bel⟩ | (rw [← World.drewN_drewN]; exact ⟨rfl, hS22.bel⟩)

theorem own : ownKnob Try.prog.godebug = none := by kernel_rfl
theorem laidOut : laidOutB Try.prog = true := by kernel_rfl

set_option maxRecDepth 100000 in
theorem lifted (os : Os) (started : os.Started) (H : Type) (enc : TypeId × Value → H) :
    ReturnsInHanded {} Try.checked os 11 .any (Rows.fnExactCanonicalComplexSpec.pre6 enc Try.prog Try.f11 Rows.fnExactCanonicalComplexRow.domain false) (Rows.fnExactCanonicalComplexSpec.post enc Try.prog Try.f11 false true false false) := by
  refine returnsInHanded_of_change (C := Try.checked) own started (by kernel_rfl) Try.func11
    (ChangeSpec.witness6 (enc := enc) (C := Try.checked) false ⟨#[], #[.agg #[.int .i64 0, .slice none 0 0]], []⟩ 8 (by kernel_rfl) (by kernel_rfl) (by kernel_rfl) (by kernel_rfl)) ?_
  intro W base args ds gs before hval0 hW hcnd _
  have hval : ∀ (j : Nat) t v, Try.f11.params[j]? = some t → args[j]? = some v → Value.okWide Try.prog W .any base t v := hval0
  have hW' := hW
  obtain ⟨p, q, hA0, hV, rfl, hfz, hnd⟩ := hW
  have hA : DataW.TrodAll enc Try.prog W 0 (fun _ => true) true Try.f11.params.toList args.toList ds p := hA0
  rw [Try.params11] at hA hval
  obtain ⟨v0, vs0, d0, ds0, p0, q0, hargs, rfl, rfl, h0, r0⟩ := trodAll_cons hA
  obtain ⟨rfl, rfl, rfl⟩ := trodAll_nil r0
  obtain rfl : args = #[v0] := by cases args; simp_all
  obtain ⟨rfl, rfl⟩ := trodVars_none hV
  have k0 := h0
  have lt0 : ∀ x ∈ p0, x.block < W.heap.size := by obtain ⟨m, hm⟩ := k0; exact DataW.trod_lt m _ _ _ hm
  obtain ⟨b0, c0, y0, y0', n0, rfl, _, _, i0, m0⟩ := Go.Joins.open_agg2 Try.underlying36 (by kernel_rfl) (by kernel_rfl) (hval 0 36 v0 rfl rfl) h0
  obtain ⟨a0, hc0, _⟩ := DataW.trod_int Try.underlying3 i0
  obtain rfl : b0 = .int .i64 a0 := by simpa using hc0
  obtain ⟨z0, g0⟩ : ∃ zs, Rd W c0 (ints zs) := by
    rcases open_ints Try.underlying34 Try.underlying3 (by kernel_rfl) m0 with ⟨hcs, _⟩ | ⟨x, l, c, zs, hcs, _, hl, hm, hz, _, hcell, _⟩
    · obtain rfl : c0 = .slice none 0 0 := by simpa using hcs
      exact ⟨[], .inl ⟨rfl, rfl⟩⟩
    · obtain rfl : c0 = .slice (some x) l c := by simpa using hcs
      exact ⟨_, rd_of_open hl hm (by simp at hz; omega) hcell⟩
  clear hA0 hval0
  refine (law_c a0 _ z0 W g0).mono fun e W' ⟨he, bel⟩ => ?_
  subst he
  exact ⟨_, rfl, _, _, _, [], _, [], hW', trodAll_mk1 (shut_bool Try.underlying4 _), (trodAll_cons_mk (Below.trod laidOut (by kernel_rfl) (of_decide_eq_true (by kernel_rfl)) k0 bel lt0) trodAll_mk0), rfl, bel.frame _, fun h => by cases h⟩

theorem over : Rows.fnExactCanonicalComplexRow.holds Try.pinned (OpenSpec.ofChange Rows.fnExactCanonicalComplexSpec) :=
  OpenClaim.holds_of_wide 11 Try.f11 rfl rfl rfl rfl rfl rfl rfl ⟨rfl, rfl, rfl, rfl, rfl⟩ rfl rfl rfl rfl rfl (by kernel_rfl) Try.func11 (by kernel_rfl)
    (of_decide_eq_true (by kernel_rfl)) (by unfold Func.isWrapper; first | (rw [if_pos (by decide +kernel)]; kernel_rfl) | (rw [if_neg (by decide +kernel)]; exact ⟨rfl, rfl⟩))
    (fun os started H enc _ => lifted os started H enc)

theorem proved : Rows.FnExactCanonicalComplexSaid :=
  over
end Go.Proofs.Ytkfkmncecihflaa.fnExactCanonicalComplex
