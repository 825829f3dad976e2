/-
  The statement Rows.FnExactAreAlikeSaid: the law answers true at every input, and its arguments read afterwards as before. No further condition.
-/
import Derived.Test.YtkfkmncecihflaaAlike2
import Derived.Test.YtkfkmncecihflaaCxLaws
import Derived.Lib.SmallJoins
import Derived.ProofKit
import Derived.OpenShut
import Derived.ChangeOld
namespace Go.Proofs.Ytkfkmncecihflaa.fnExactAreAlike
open Go.ChangeShapes Go.WideShapes Go.ChangeAt Go.RowKit
set_option linter.unusedVariables false

set_option maxHeartbeats 40000000 in
set_option maxRecDepth 100000 in
theorem law_c (p0 : Int) (u0 : Value) (x0 : List Int) (p1 : Int) (u1 : Value) (x1 : List Int) (w : World) (g0 : Rd w u0 (ints x0)) (g1 : Rd w u1 (ints x1)) : Calls Try.prog 12 #[cx p0 u0, cx p1 u1] w fun e w' => e = .returned (.bool true) ∧ Below w.heap.size w w' := by
  obtain ⟨up0, ul0, uc0, rfl⟩ := g0.form
  obtain ⟨up1, ul1, uc1, rfl⟩ := g1.form
  unfold cx
  have la0 := g0.iln tI
  have la1 := g1.iln tI
  by_cases hbig : (1048576 : Int) < (x0.length : Int)
  · skip
    go_enter Try.func12, Try.ntmps12
    have hS0 := hid (St.start w)
    have hS1 := hid (hS0.out.boxAt p0 (.slice up0 ul0 uc0) 36 (H := w.heap.size) rfl)
    clear hS0
    have hS2 := hid (hS1.out.boxAt p1 (.slice up1 ul1 uc1) 36 (H := w.heap.size + 1) (by simp))
    clear hS1
    have q00 : ((w.alloc (.cells #[.int .i64 p0, (.slice up0 ul0 uc0)] 36)).alloc (.cells #[.int .i64 p1, (.slice up1 ul1 uc1)] 36)).cell? ⟨w.heap.size + 1, 0, none⟩ = some (.int .i64 (p1)) := ((hS2.out).hd).c0
    have q01 : ((w.alloc (.cells #[.int .i64 p0, (.slice up0 ul0 uc0)] 36)).alloc (.cells #[.int .i64 p1, (.slice up1 ul1 uc1)] 36)).cell? ⟨w.heap.size + 1, 1, none⟩ = some (.slice up1 ul1 uc1) := ((hS2.out).hd).c1
    have q10 : ((w.alloc (.cells #[.int .i64 p0, (.slice up0 ul0 uc0)] 36)).alloc (.cells #[.int .i64 p1, (.slice up1 ul1 uc1)] 36)).cell? ⟨w.heap.size, 0, none⟩ = some (.int .i64 (p0)) := (((hS2.out).tail).hd).c0
    have q11 : ((w.alloc (.cells #[.int .i64 p0, (.slice up0 ul0 uc0)] 36)).alloc (.cells #[.int .i64 p1, (.slice up1 ul1 uc1)] 36)).cell? ⟨w.heap.size, 1, none⟩ = some (.slice up0 ul0 uc0) := (((hS2.out).tail).hd).c1
    go_wp2_with fail
    clear q00 q01 q10 q11
    refine (szComplex_big p0 _ x0 (1048576) _ (hS2.out.old g0) (by omega) (by omega)).mono ?_
    rintro e w3 ⟨rfl, hN⟩
    have hS3 := hid (hS2.out.quiet hN)
    clear hN hS2
    have q00 : w3.cell? ⟨w.heap.size + 1, 0, none⟩ = some (.int .i64 (p1)) := ((hS3.out).hd).c0
    have q01 : w3.cell? ⟨w.heap.size + 1, 1, none⟩ = some (.slice up1 ul1 uc1) := ((hS3.out).hd).c1
    have q10 : w3.cell? ⟨w.heap.size, 0, none⟩ = some (.int .i64 (p0)) := (((hS3.out).tail).hd).c0
    have q11 : w3.cell? ⟨w.heap.size, 1, none⟩ = some (.slice up0 ul0 uc0) := (((hS3.out).tail).hd).c1
    go_wp2_with fail
    clear q00 q01 q10 q11
    go_ret
    first | exact ⟨rfl, hS3.out.bel⟩ | (rw [← World.drewN_drewN]; exact ⟨rfl, hS3.out.bel⟩)
  have hx0 : (x0.length : Int) ≤ 1048576 := by omega
  have hy0 : (x0.length : Int) ≤ 1048576 := by omega
  clear hbig
  by_cases hbig : (1048576 - (x0.length : Int) : Int) < (x1.length : Int)
  · skip
    go_enter Try.func12, Try.ntmps12
    have hS0 := hid (St.start w)
    have hS1 := hid (hS0.out.boxAt p0 (.slice up0 ul0 uc0) 36 (H := w.heap.size) rfl)
    clear hS0
    have hS2 := hid (hS1.out.boxAt p1 (.slice up1 ul1 uc1) 36 (H := w.heap.size + 1) (by simp))
    clear hS1
    have q00 : ((w.alloc (.cells #[.int .i64 p0, (.slice up0 ul0 uc0)] 36)).alloc (.cells #[.int .i64 p1, (.slice up1 ul1 uc1)] 36)).cell? ⟨w.heap.size + 1, 0, none⟩ = some (.int .i64 (p1)) := ((hS2.out).hd).c0
    have q01 : ((w.alloc (.cells #[.int .i64 p0, (.slice up0 ul0 uc0)] 36)).alloc (.cells #[.int .i64 p1, (.slice up1 ul1 uc1)] 36)).cell? ⟨w.heap.size + 1, 1, none⟩ = some (.slice up1 ul1 uc1) := ((hS2.out).hd).c1
    have q10 : ((w.alloc (.cells #[.int .i64 p0, (.slice up0 ul0 uc0)] 36)).alloc (.cells #[.int .i64 p1, (.slice up1 ul1 uc1)] 36)).cell? ⟨w.heap.size, 0, none⟩ = some (.int .i64 (p0)) := (((hS2.out).tail).hd).c0
    have q11 : ((w.alloc (.cells #[.int .i64 p0, (.slice up0 ul0 uc0)] 36)).alloc (.cells #[.int .i64 p1, (.slice up1 ul1 uc1)] 36)).cell? ⟨w.heap.size, 1, none⟩ = some (.slice up0 ul0 uc0) := (((hS2.out).tail).hd).c1
    go_wp2_with fail
    clear q00 q01 q10 q11
    refine (szComplex_ok p0 _ x0 (1048576) _ (hS2.out.old g0) (by omega) (by omega)).mono ?_
    rintro e w3 ⟨rfl, hN⟩
    have hS3 := hid (hS2.out.quiet hN)
    clear hN hS2
    have q00 : w3.cell? ⟨w.heap.size + 1, 0, none⟩ = some (.int .i64 (p1)) := ((hS3.out).hd).c0
    have q01 : w3.cell? ⟨w.heap.size + 1, 1, none⟩ = some (.slice up1 ul1 uc1) := ((hS3.out).hd).c1
    have q10 : w3.cell? ⟨w.heap.size, 0, none⟩ = some (.int .i64 (p0)) := (((hS3.out).tail).hd).c0
    have q11 : w3.cell? ⟨w.heap.size, 1, none⟩ = some (.slice up0 ul0 uc0) := (((hS3.out).tail).hd).c1
    go_wp2_with fail
    clear q00 q01 q10 q11
    refine (szComplex_big p1 _ x1 (1048576 - (x0.length : Int)) _ (hS3.out.old g1) (by omega) (by omega)).mono ?_
    rintro e w4 ⟨rfl, hN⟩
    have hS4 := hid (hS3.out.quiet hN)
    clear hN hS3
    have q00 : w4.cell? ⟨w.heap.size + 1, 0, none⟩ = some (.int .i64 (p1)) := ((hS4.out).hd).c0
    have q01 : w4.cell? ⟨w.heap.size + 1, 1, none⟩ = some (.slice up1 ul1 uc1) := ((hS4.out).hd).c1
    have q10 : w4.cell? ⟨w.heap.size, 0, none⟩ = some (.int .i64 (p0)) := (((hS4.out).tail).hd).c0
    have q11 : w4.cell? ⟨w.heap.size, 1, none⟩ = some (.slice up0 ul0 uc0) := (((hS4.out).tail).hd).c1
    go_wp2_with fail
    clear q00 q01 q10 q11
    go_ret
    first | exact ⟨rfl, hS4.out.bel⟩ | (rw [← World.drewN_drewN]; exact ⟨rfl, hS4.out.bel⟩)
  have hx1 : (x1.length : Int) ≤ 1048576 := by omega
  have hy1 : (x1.length : Int) ≤ 1048576 - (x0.length : Int) := by omega
  clear hbig
  go_enter Try.func12, Try.ntmps12
  have hS0 := hid (St.start w)
  have hS1 := hid (hS0.out.boxAt p0 (.slice up0 ul0 uc0) 36 (H := w.heap.size) rfl)
  clear hS0
  have hS2 := hid (hS1.out.boxAt p1 (.slice up1 ul1 uc1) 36 (H := w.heap.size + 1) (by simp))
  clear hS1
  have q00 : ((w.alloc (.cells #[.int .i64 p0, (.slice up0 ul0 uc0)] 36)).alloc (.cells #[.int .i64 p1, (.slice up1 ul1 uc1)] 36)).cell? ⟨w.heap.size + 1, 0, none⟩ = some (.int .i64 (p1)) := ((hS2.out).hd).c0
  have q01 : ((w.alloc (.cells #[.int .i64 p0, (.slice up0 ul0 uc0)] 36)).alloc (.cells #[.int .i64 p1, (.slice up1 ul1 uc1)] 36)).cell? ⟨w.heap.size + 1, 1, none⟩ = some (.slice up1 ul1 uc1) := ((hS2.out).hd).c1
  have q10 : ((w.alloc (.cells #[.int .i64 p0, (.slice up0 ul0 uc0)] 36)).alloc (.cells #[.int .i64 p1, (.slice up1 ul1 uc1)] 36)).cell? ⟨w.heap.size, 0, none⟩ = some (.int .i64 (p0)) := (((hS2.out).tail).hd).c0
  have q11 : ((w.alloc (.cells #[.int .i64 p0, (.slice up0 ul0 uc0)] 36)).alloc (.cells #[.int .i64 p1, (.slice up1 ul1 uc1)] 36)).cell? ⟨w.heap.size, 1, none⟩ = some (.slice up0 ul0 uc0) := (((hS2.out).tail).hd).c1
  go_wp2_with fail
  clear q00 q01 q10 q11
  refine (szComplex_ok p0 _ x0 (1048576) _ (hS2.out.old g0) (by omega) (by omega)).mono ?_
  rintro e w3 ⟨rfl, hN⟩
  have hS3 := hid (hS2.out.quiet hN)
  clear hN hS2
  have q00 : w3.cell? ⟨w.heap.size + 1, 0, none⟩ = some (.int .i64 (p1)) := ((hS3.out).hd).c0
  have q01 : w3.cell? ⟨w.heap.size + 1, 1, none⟩ = some (.slice up1 ul1 uc1) := ((hS3.out).hd).c1
  have q10 : w3.cell? ⟨w.heap.size, 0, none⟩ = some (.int .i64 (p0)) := (((hS3.out).tail).hd).c0
  have q11 : w3.cell? ⟨w.heap.size, 1, none⟩ = some (.slice up0 ul0 uc0) := (((hS3.out).tail).hd).c1
  go_wp2_with fail
  clear q00 q01 q10 q11
  refine (szComplex_ok p1 _ x1 (1048576 - (x0.length : Int)) _ (hS3.out.old g1) (by omega) (by omega)).mono ?_
  rintro e w4 ⟨rfl, hN⟩
  have hS4 := hid (hS3.out.quiet hN)
  clear hN hS3
  have q00 : w4.cell? ⟨w.heap.size + 1, 0, none⟩ = some (.int .i64 (p1)) := ((hS4.out).hd).c0
  have q01 : w4.cell? ⟨w.heap.size + 1, 1, none⟩ = some (.slice up1 ul1 uc1) := ((hS4.out).hd).c1
  have q10 : w4.cell? ⟨w.heap.size, 0, none⟩ = some (.int .i64 (p0)) := (((hS4.out).tail).hd).c0
  have q11 : w4.cell? ⟨w.heap.size, 1, none⟩ = some (.slice up0 ul0 uc0) := (((hS4.out).tail).hd).c1
  go_wp2_with fail
  go_region_held3 (fun w' => w'.cell? ⟨w.heap.size, 0, none⟩ = some (.int .i64 (p0)) ∧ w'.cell? ⟨w.heap.size, 1, none⟩ = some (.slice up0 ul0 uc0) ∧ w'.cell? ⟨w.heap.size + 1, 0, none⟩ = some (.int .i64 (p1)) ∧ w'.cell? ⟨w.heap.size + 1, 1, none⟩ = some (.slice up1 ul1 uc1)) (first | go_keep | exact ⟨ka00, ka01, ka10, ka11⟩ | exact ⟨kb00, kb01, kb10, kb11⟩ | exact ⟨kc00, kc01, kc10, kc11⟩)
    (first
      | (go_at_call 45; refine (sAreAlike_c p0 p1 _ _ x0 x1 _ HB.out.hd2 HB.out.hd).mono ?_; rintro e wc ⟨rfl, hNc⟩; have hC := HB.out.quiet hNc; have kc10 := (((hC).tail).tail.hd).c0; have kc11 := (((hC).tail).tail.hd).c1; have kc00 := ((((hC).tail).tail).tail.hd).c0; have kc01 := ((((hC).tail).tail).tail.hd).c1; have HC := hid hC; clear hC hNc)
      | (go_at_call 30; refine (toComplex_c p1 _ x1 _ (HA.out.old g1) (by omega)).mono ?_; rintro e wb ⟨tb, rfl, hNb⟩; have hB := HA.out.call1 hNb; obtain ⟨tbp, tbl, tbc, rfl⟩ := hB.hd.form; have kb10 := (((hB).tail).tail.hd).c0; have kb11 := (((hB).tail).tail.hd).c1; have kb00 := ((((hB).tail).tail).tail.hd).c0; have kb01 := ((((hB).tail).tail).tail.hd).c1; have HB := hid hB; clear hB hNb; unfold cx)
      | (go_at_call 30; refine (toComplex_c p0 _ x0 _ ((hS4.out.drewN 1).old g0) (by omega)).mono ?_; rintro e wa ⟨ta, rfl, hNa⟩; have hA := (hS4.out.drewN 1).call1 hNa; obtain ⟨tap, tal, tac, rfl⟩ := hA.hd.form; have ka10 := ((hA).tail.hd).c0; have ka11 := ((hA).tail.hd).c1; have ka00 := (((hA).tail).tail.hd).c0; have ka01 := (((hA).tail).tail.hd).c1; have HA := hid hA; clear hA hNa; unfold cx))
  all_goals
    have hS50 := HC
    clear q00 q01 q10 q11 HC
    have q20 : wc.cell? ⟨w.heap.size + 1, 0, none⟩ = some (.int .i64 (p1)) := ((((hS50.out).tail).tail).hd).c0
    have q21 : wc.cell? ⟨w.heap.size + 1, 1, none⟩ = some (.slice up1 ul1 uc1) := ((((hS50.out).tail).tail).hd).c1
    have q30 : wc.cell? ⟨w.heap.size, 0, none⟩ = some (.int .i64 (p0)) := (((((hS50.out).tail).tail).tail).hd).c0
    have q31 : wc.cell? ⟨w.heap.size, 1, none⟩ = some (.slice up0 ul0 uc0) := (((((hS50.out).tail).tail).tail).hd).c1
    go_wp2_with fail
    clear q20 q21 q30 q31
    refine (toComplex_c p0 _ x0 _ (hS50.out.old g0) (by omega)).mono ?_
    rintro e w51 ⟨y0, rfl, hN⟩
    have hS51 := hid (hS50.out.call1 hN)
    clear hN hS50
    obtain ⟨y0p, y0l, y0c, rfl⟩ := hS51.out.hd.form
    try unfold cx
    have q30 : w51.cell? ⟨w.heap.size + 1, 0, none⟩ = some (.int .i64 (p1)) := (((((hS51.out).tail).tail).tail).hd).c0
    have q31 : w51.cell? ⟨w.heap.size + 1, 1, none⟩ = some (.slice up1 ul1 uc1) := (((((hS51.out).tail).tail).tail).hd).c1
    have q40 : w51.cell? ⟨w.heap.size, 0, none⟩ = some (.int .i64 (p0)) := ((((((hS51.out).tail).tail).tail).tail).hd).c0
    have q41 : w51.cell? ⟨w.heap.size, 1, none⟩ = some (.slice up0 ul0 uc0) := ((((((hS51.out).tail).tail).tail).tail).hd).c1
    have hS52 := hid (hS51.out.box (p0) (.slice y0p y0l y0c) 38)
    have qq00 := ((hS52.out).hd).c0
    have qq01 := ((hS52.out).hd).c1
    have qq40 := ((((((hS52.out).tail).tail).tail).tail).hd).c0
    have qq41 := ((((((hS52.out).tail).tail).tail).tail).hd).c1
    have qq50 := (((((((hS52.out).tail).tail).tail).tail).tail).hd).c0
    have qq51 := (((((((hS52.out).tail).tail).tail).tail).tail).hd).c1
    go_wp2_with fail
    clear q30 q31 q40 q41 qq00 qq01 qq40 qq41 qq50 qq51 hS51
    refine (toComplex_c p1 _ x1 _ (hS52.out.old g1) (by omega)).mono ?_
    rintro e w53 ⟨y1, rfl, hN⟩
    have hS53 := hid (hS52.out.call1 hN)
    clear hN hS52
    obtain ⟨y1p, y1l, y1c, rfl⟩ := hS53.out.hd.form
    try unfold cx
    have q10 : w53.cell? ⟨w51.heap.size, 0, none⟩ = some (.int .i64 (p0)) := (((hS53.out).tail).hd).c0
    have q11 : w53.cell? ⟨w51.heap.size, 1, none⟩ = some (.slice y0p y0l y0c) := (((hS53.out).tail).hd).c1
    have q50 : w53.cell? ⟨w.heap.size + 1, 0, none⟩ = some (.int .i64 (p1)) := (((((((hS53.out).tail).tail).tail).tail).tail).hd).c0
    have q51 : w53.cell? ⟨w.heap.size + 1, 1, none⟩ = some (.slice up1 ul1 uc1) := (((((((hS53.out).tail).tail).tail).tail).tail).hd).c1
    have q60 : w53.cell? ⟨w.heap.size, 0, none⟩ = some (.int .i64 (p0)) := ((((((((hS53.out).tail).tail).tail).tail).tail).tail).hd).c0
    have q61 : w53.cell? ⟨w.heap.size, 1, none⟩ = some (.slice up0 ul0 uc0) := ((((((((hS53.out).tail).tail).tail).tail).tail).tail).hd).c1
    have hS54 := hid (hS53.out.box (p1) (.slice y1p y1l y1c) 38)
    have qq00 := ((hS54.out).hd).c0
    have qq01 := ((hS54.out).hd).c1
    have qq20 := ((((hS54.out).tail).tail).hd).c0
    have qq21 := ((((hS54.out).tail).tail).hd).c1
    have qq60 := ((((((((hS54.out).tail).tail).tail).tail).tail).tail).hd).c0
    have qq61 := ((((((((hS54.out).tail).tail).tail).tail).tail).tail).hd).c1
    have qq70 := (((((((((hS54.out).tail).tail).tail).tail).tail).tail).tail).hd).c0
    have qq71 := (((((((((hS54.out).tail).tail).tail).tail).tail).tail).tail).hd).c1
    go_wp2_with fail
    clear q10 q11 q50 q51 q60 q61 qq00 qq01 qq20 qq21 qq60 qq61 qq70 qq71 hS53
    refine (AreAlike_c p0 p1 _ _ x0 x1 _ (((((hS54.out).tail).tail).tail).hd) (((hS54.out).tail).hd)).mono ?_
    rintro e w55 ⟨rfl, hN⟩
    have hS55 := hid (hS54.out.quiet hN)
    clear hN hS54
    have q00 : w55.cell? ⟨w53.heap.size, 0, none⟩ = some (.int .i64 (p1)) := ((hS55.out).hd).c0
    have q01 : w55.cell? ⟨w53.heap.size, 1, none⟩ = some (.slice y1p y1l y1c) := ((hS55.out).hd).c1
    have q20 : w55.cell? ⟨w51.heap.size, 0, none⟩ = some (.int .i64 (p0)) := ((((hS55.out).tail).tail).hd).c0
    have q21 : w55.cell? ⟨w51.heap.size, 1, none⟩ = some (.slice y0p y0l y0c) := ((((hS55.out).tail).tail).hd).c1
    have q60 : w55.cell? ⟨w.heap.size + 1, 0, none⟩ = some (.int .i64 (p1)) := ((((((((hS55.out).tail).tail).tail).tail).tail).tail).hd).c0
    have q61 : w55.cell? ⟨w.heap.size + 1, 1, none⟩ = some (.slice up1 ul1 uc1) := ((((((((hS55.out).tail).tail).tail).tail).tail).tail).hd).c1
    have q70 : w55.cell? ⟨w.heap.size, 0, none⟩ = some (.int .i64 (p0)) := (((((((((hS55.out).tail).tail).tail).tail).tail).tail).tail).hd).c0
    have q71 : w55.cell? ⟨w.heap.size, 1, none⟩ = some (.slice up0 ul0 uc0) := (((((((((hS55.out).tail).tail).tail).tail).tail).tail).tail).hd).c1
    go_wp2_with fail
    go_region_with (first | (go_at_call 30; refine (toComplex_c p0 _ x0 _ ((hS55.out.drewN 1).old g0) (by omega)).mono ?_; rintro e wz ⟨zz, rfl, hNz⟩; have hZ := (hS55.out.drewN 1).call1 hNz; obtain ⟨zp, zl, zc, rfl⟩ := hZ.hd.form; have z00 := (((hZ).tail).hd).c0; have z01 := (((hZ).tail).hd).c1; have z20 := (((((hZ).tail).tail).tail).hd).c0; have z21 := (((((hZ).tail).tail).tail).hd).c1; have z60 := (((((((((hZ).tail).tail).tail).tail).tail).tail).tail).hd).c0; have z61 := (((((((((hZ).tail).tail).tail).tail).tail).tail).tail).hd).c1; have z70 := ((((((((((hZ).tail).tail).tail).tail).tail).tail).tail).tail).hd).c0; have z71 := ((((((((((hZ).tail).tail).tail).tail).tail).tail).tail).tail).hd).c1) | (go_at_call 33; refine (eqComplex_c p0 _ _ x0 _ (((((hZ).tail).tail).tail).tail).hd hZ.hd).mono ?_; rintro e wy ⟨rfl, hNy⟩; have hY := (hZ.quiet hNy).tail))
    all_goals
      have hS56 := hid hY
      clear hY hS55 q00 q01 q20 q21 q60 q61 q70 q71
      have q00 : wy.cell? ⟨w53.heap.size, 0, none⟩ = some (.int .i64 (p1)) := ((hS56.out).hd).c0
      have q01 : wy.cell? ⟨w53.heap.size, 1, none⟩ = some (.slice y1p y1l y1c) := ((hS56.out).hd).c1
      have q20 : wy.cell? ⟨w51.heap.size, 0, none⟩ = some (.int .i64 (p0)) := ((((hS56.out).tail).tail).hd).c0
      have q21 : wy.cell? ⟨w51.heap.size, 1, none⟩ = some (.slice y0p y0l y0c) := ((((hS56.out).tail).tail).hd).c1
      have q60 : wy.cell? ⟨w.heap.size + 1, 0, none⟩ = some (.int .i64 (p1)) := ((((((((hS56.out).tail).tail).tail).tail).tail).tail).hd).c0
      have q61 : wy.cell? ⟨w.heap.size + 1, 1, none⟩ = some (.slice up1 ul1 uc1) := ((((((((hS56.out).tail).tail).tail).tail).tail).tail).hd).c1
      have q70 : wy.cell? ⟨w.heap.size, 0, none⟩ = some (.int .i64 (p0)) := (((((((((hS56.out).tail).tail).tail).tail).tail).tail).tail).hd).c0
      have q71 : wy.cell? ⟨w.heap.size, 1, none⟩ = some (.slice up0 ul0 uc0) := (((((((((hS56.out).tail).tail).tail).tail).tail).tail).tail).hd).c1
      go_wp2_with fail
      go_region_with (first | (go_at_call 30; refine (toComplex_c p1 _ x1 _ ((hS56.out.drewN 1).old g1) (by omega)).mono ?_; rintro e wz ⟨zz, rfl, hNz⟩; have hZ := (hS56.out.drewN 1).call1 hNz; obtain ⟨zp, zl, zc, rfl⟩ := hZ.hd.form; have z00 := (((hZ).tail).hd).c0; have z01 := (((hZ).tail).hd).c1; have z20 := (((((hZ).tail).tail).tail).hd).c0; have z21 := (((((hZ).tail).tail).tail).hd).c1; have z60 := (((((((((hZ).tail).tail).tail).tail).tail).tail).tail).hd).c0; have z61 := (((((((((hZ).tail).tail).tail).tail).tail).tail).tail).hd).c1; have z70 := ((((((((((hZ).tail).tail).tail).tail).tail).tail).tail).tail).hd).c0; have z71 := ((((((((((hZ).tail).tail).tail).tail).tail).tail).tail).tail).hd).c1) | (go_at_call 33; refine (eqComplex_c p1 _ _ x1 _ (((hZ).tail).tail).hd hZ.hd).mono ?_; rintro e wy ⟨rfl, hNy⟩; have hY := (hZ.quiet hNy).tail))
      all_goals
        have hS57 := hid hY
        clear hY hS56 q00 q01 q20 q21 q60 q61 q70 q71
        have q00 : wy.cell? ⟨w53.heap.size, 0, none⟩ = some (.int .i64 (p1)) := ((hS57.out).hd).c0
        have q01 : wy.cell? ⟨w53.heap.size, 1, none⟩ = some (.slice y1p y1l y1c) := ((hS57.out).hd).c1
        have q20 : wy.cell? ⟨w51.heap.size, 0, none⟩ = some (.int .i64 (p0)) := ((((hS57.out).tail).tail).hd).c0
        have q21 : wy.cell? ⟨w51.heap.size, 1, none⟩ = some (.slice y0p y0l y0c) := ((((hS57.out).tail).tail).hd).c1
        have q60 : wy.cell? ⟨w.heap.size + 1, 0, none⟩ = some (.int .i64 (p1)) := ((((((((hS57.out).tail).tail).tail).tail).tail).tail).hd).c0
        have q61 : wy.cell? ⟨w.heap.size + 1, 1, none⟩ = some (.slice up1 ul1 uc1) := ((((((((hS57.out).tail).tail).tail).tail).tail).tail).hd).c1
        have q70 : wy.cell? ⟨w.heap.size, 0, none⟩ = some (.int .i64 (p0)) := (((((((((hS57.out).tail).tail).tail).tail).tail).tail).tail).hd).c0
        have q71 : wy.cell? ⟨w.heap.size, 1, none⟩ = some (.slice up0 ul0 uc0) := (((((((((hS57.out).tail).tail).tail).tail).tail).tail).tail).hd).c1
        go_wp2_with fail
        clear q00 q01 q20 q21 q60 q61 q70 q71
        go_ret
        first | exact ⟨rfl, hS57.out.bel⟩ | (rw [← World.drewN_drewN]; exact ⟨rfl, hS57.out.bel⟩)

theorem own : ownKnob Try.prog.godebug = none := by kernel_rfl
theorem laidOut : laidOutB Try.prog = true := by kernel_rfl

set_option maxRecDepth 100000 in
theorem lifted (os : Os) (started : os.Started) (H : Type) (enc : TypeId × Value → H) :
    ReturnsInHanded {} Try.checked os 12 .any (Rows.fnExactAreAlikeSpec.pre6 enc Try.prog Try.f12 Rows.fnExactAreAlikeRow.domain false) (Rows.fnExactAreAlikeSpec.post enc Try.prog Try.f12 false true false false) := by
  refine returnsInHanded_of_change (C := Try.checked) own started (by kernel_rfl) Try.func12
    (ChangeSpec.witness6 (enc := enc) (C := Try.checked) false ⟨#[], #[.agg #[.int .i64 0, .slice none 0 0], .agg #[.int .i64 0, .slice none 0 0]], []⟩ 8 (by kernel_rfl) (by kernel_rfl) (by kernel_rfl) (by kernel_rfl)) ?_
  intro W base args ds gs before hval0 hW hcnd _
  have hval : ∀ (j : Nat) t v, Try.f12.params[j]? = some t → args[j]? = some v → Value.okWide Try.prog W .any base t v := hval0
  have hW' := hW
  obtain ⟨p, q, hA0, hV, rfl, hfz, hnd⟩ := hW
  have hA : DataW.TrodAll enc Try.prog W 0 (fun _ => true) true Try.f12.params.toList args.toList ds p := hA0
  rw [Try.params12] at hA hval
  obtain ⟨v0, vs0, d0, ds0, p0, q0, hargs, rfl, rfl, h0, r0⟩ := trodAll_cons hA
  obtain ⟨v1, vs1, d1, ds1, p1, q1, rfl, rfl, rfl, h1, r1⟩ := trodAll_cons r0
  obtain ⟨rfl, rfl, rfl⟩ := trodAll_nil r1
  obtain rfl : args = #[v0, v1] := by cases args; simp_all
  obtain ⟨rfl, rfl⟩ := trodVars_none hV
  have k0 := h0
  have lt0 : ∀ x ∈ p0, x.block < W.heap.size := by obtain ⟨m, hm⟩ := k0; exact DataW.trod_lt m _ _ _ hm
  obtain ⟨b0, c0, y0, y0', n0, rfl, _, _, i0, m0⟩ := Go.Joins.open_agg2 Try.underlying36 (by kernel_rfl) (by kernel_rfl) (hval 0 36 v0 rfl rfl) h0
  obtain ⟨a0, hc0, _⟩ := DataW.trod_int Try.underlying3 i0
  obtain rfl : b0 = .int .i64 a0 := by simpa using hc0
  obtain ⟨z0, g0⟩ : ∃ zs, Rd W c0 (ints zs) := by
    rcases open_ints Try.underlying34 Try.underlying3 (by kernel_rfl) m0 with ⟨hcs, _⟩ | ⟨x, l, c, zs, hcs, _, hl, hm, hz, _, hcell, _⟩
    · obtain rfl : c0 = .slice none 0 0 := by simpa using hcs
      exact ⟨[], .inl ⟨rfl, rfl⟩⟩
    · obtain rfl : c0 = .slice (some x) l c := by simpa using hcs
      exact ⟨_, rd_of_open hl hm (by simp at hz; omega) hcell⟩
  have k1 := h1
  have lt1 : ∀ x ∈ p1, x.block < W.heap.size := by obtain ⟨m, hm⟩ := k1; exact DataW.trod_lt m _ _ _ hm
  obtain ⟨b1, c1, y1, y1', n1, rfl, _, _, i1, m1⟩ := Go.Joins.open_agg2 Try.underlying36 (by kernel_rfl) (by kernel_rfl) (hval 1 36 v1 rfl rfl) h1
  obtain ⟨a1, hc1, _⟩ := DataW.trod_int Try.underlying3 i1
  obtain rfl : b1 = .int .i64 a1 := by simpa using hc1
  obtain ⟨z1, g1⟩ : ∃ zs, Rd W c1 (ints zs) := by
    rcases open_ints Try.underlying34 Try.underlying3 (by kernel_rfl) m1 with ⟨hcs, _⟩ | ⟨x, l, c, zs, hcs, _, hl, hm, hz, _, hcell, _⟩
    · obtain rfl : c1 = .slice none 0 0 := by simpa using hcs
      exact ⟨[], .inl ⟨rfl, rfl⟩⟩
    · obtain rfl : c1 = .slice (some x) l c := by simpa using hcs
      exact ⟨_, rd_of_open hl hm (by simp at hz; omega) hcell⟩
  clear hA0 hval0
  refine (law_c a0 _ z0 a1 _ z1 W g0 g1).mono fun e W' ⟨he, bel⟩ => ?_
  subst he
  exact ⟨_, rfl, _, _, _, [], _, [], hW', trodAll_mk1 (shut_bool Try.underlying4 _), (trodAll_cons_mk (Below.trod laidOut (by kernel_rfl) (of_decide_eq_true (by kernel_rfl)) k0 bel lt0) (trodAll_cons_mk (Below.trod laidOut (by kernel_rfl) (of_decide_eq_true (by kernel_rfl)) k1 bel lt1) trodAll_mk0)), rfl, bel.frame _, fun h => by cases h⟩

theorem over : Rows.fnExactAreAlikeRow.holds Try.pinned (OpenSpec.ofChange Rows.fnExactAreAlikeSpec) :=
  OpenClaim.holds_of_wide 12 Try.f12 rfl rfl rfl rfl rfl rfl rfl ⟨rfl, rfl, rfl, rfl, rfl⟩ rfl rfl rfl rfl rfl (by kernel_rfl) Try.func12 (by kernel_rfl)
    (of_decide_eq_true (by kernel_rfl)) (by unfold Func.isWrapper; first | (rw [if_pos (by decide +kernel)]; kernel_rfl) | (rw [if_neg (by decide +kernel)]; exact ⟨rfl, rfl⟩))
    (fun os started H enc _ => lifted os started H enc)

theorem proved : Rows.FnExactAreAlikeSaid :=
  over
end Go.Proofs.Ytkfkmncecihflaa.fnExactAreAlike
