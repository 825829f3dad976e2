/-
  The statement Rows.FnExactPointClassesSaid: the law answers true at every input, and its arguments read afterwards as before. No further condition.
-/
import Derived.Test.YtkfkmncecihflaaPts2
import Derived.Test.YtkfkmncecihflaaCxLaws
import Derived.Lib.SmallJoins
import Derived.ProofKit
import Derived.OpenShut
import Derived.ChangeOld
namespace Go.Proofs.Ytkfkmncecihflaa.fnExactPointClasses
open Go.ChangeShapes Go.WideShapes Go.ChangeAt Go.RowKit
set_option linter.unusedVariables false

set_option maxHeartbeats 8000000 in
set_option maxRecDepth 100000 in
theorem law_c (p0 : Int) (u0 : Value) (x0 : List Int) (w : World) (g0 : Rd w u0 (ints x0)) : Calls Try.prog 10 #[cx p0 u0] w fun e w' => e = .returned (.bool true) ∧ Below w.heap.size w w' := by
  have hR : (pcs p0 x0).length ≤ 1000000 := pcs_len _ _
  obtain ⟨R, hRR⟩ : ∃ R, R = pcs p0 x0 := ⟨_, rfl⟩
  have HR := hid hRR; rw [← hRR] at hR; clear hRR
  obtain ⟨up0, ul0, uc0, rfl⟩ := g0.form
  unfold cx
  have la0 := g0.iln tI
  by_cases hbig : (1048576 : Int) < x0.length
  · skip
    go_enter Try.func10, Try.ntmps10
    have hS0 := St.start w
    have hS1 := hS0.boxAt p0 (.slice up0 ul0 uc0) 36 (H := w.heap.size) rfl
    clear hS0
    have q00 : (w.alloc (.cells #[.int .i64 p0, (.slice up0 ul0 uc0)] 36)).cell? ⟨w.heap.size, 0, none⟩ = some (.int .i64 (p0)) := ((hS1.hd)).c0
    have q01 : (w.alloc (.cells #[.int .i64 p0, (.slice up0 ul0 uc0)] 36)).cell? ⟨w.heap.size, 1, none⟩ = some (.slice up0 ul0 uc0) := ((hS1.hd)).c1
    go_wp2_with fail
    clear q00 q01
    refine (szComplex_big p0 _ x0 (1048576) _ (hS1.old g0) (by omega) (by omega)).mono ?_
    rintro e w2 ⟨rfl, hN⟩
    have hS2 := hS1.quiet hN
    clear hN hS1
    have q00 : w2.cell? ⟨w.heap.size, 0, none⟩ = some (.int .i64 (p0)) := ((hS2.hd)).c0
    have q01 : w2.cell? ⟨w.heap.size, 1, none⟩ = some (.slice up0 ul0 uc0) := ((hS2.hd)).c1
    go_wp2_with fail
    clear q00 q01
    go_ret
    first | exact ⟨rfl, hS2.bel⟩ | (rw [← World.drewN_drewN]; exact ⟨rfl, hS2.bel⟩)
  have hx0 : x0.length ≤ 1048576 := by omega
  have hy0 : (x0.length : Int) ≤ 1048576 := by omega
  clear hbig
  go_enter Try.func10, Try.ntmps10
  have hS0 := St.start w
  have hS1 := hS0.boxAt p0 (.slice up0 ul0 uc0) 36 (H := w.heap.size) rfl
  clear hS0
  have q00 : (w.alloc (.cells #[.int .i64 p0, (.slice up0 ul0 uc0)] 36)).cell? ⟨w.heap.size, 0, none⟩ = some (.int .i64 (p0)) := ((hS1.hd)).c0
  have q01 : (w.alloc (.cells #[.int .i64 p0, (.slice up0 ul0 uc0)] 36)).cell? ⟨w.heap.size, 1, none⟩ = some (.slice up0 ul0 uc0) := ((hS1.hd)).c1
  go_wp2_with fail
  clear q00 q01
  refine (szComplex_ok p0 _ x0 (1048576) _ (hS1.old g0) (by omega) (by omega)).mono ?_
  rintro e w2 ⟨rfl, hN⟩
  have hS2 := hS1.quiet hN
  clear hN hS1
  have q00 : w2.cell? ⟨w.heap.size, 0, none⟩ = some (.int .i64 (p0)) := ((hS2.hd)).c0
  have q01 : w2.cell? ⟨w.heap.size, 1, none⟩ = some (.slice up0 ul0 uc0) := ((hS2.hd)).c1
  go_wp2_with fail
  clear q00 q01
  refine (toComplex_c p0 _ x0 _ (hS2.old g0) (by omega)).mono ?_
  rintro e w3 ⟨t0, rfl, hN⟩
  have hS3 := hS2.call1 hN
  clear hN hS2
  obtain ⟨t0p, t0l, t0c, rfl⟩ := hS3.hd.form
  try unfold cx
  have q10 : w3.cell? ⟨w.heap.size, 0, none⟩ = some (.int .i64 (p0)) := ((hS3.hd2)).c0
  have q11 : w3.cell? ⟨w.heap.size, 1, none⟩ = some (.slice up0 ul0 uc0) := ((hS3.hd2)).c1
  go_wp2_with fail
  clear q10 q11
  refine (sPointClasses_c p0 _ x0 _ (hS3.hd)).mono ?_
  rw [← HR.out]
  rintro e w4 ⟨v0, rfl, hN⟩
  have hS4 := hS3.call1 hN
  clear hN hS3
  obtain ⟨v0p, v0l, v0c, rfl⟩ := hS4.hd.form
  try unfold cx
  have q20 : w4.cell? ⟨w.heap.size, 0, none⟩ = some (.int .i64 (p0)) := ((hS4.hd3)).c0
  have q21 : w4.cell? ⟨w.heap.size, 1, none⟩ = some (.slice up0 ul0 uc0) := ((hS4.hd3)).c1
  go_wp2_with fail
  clear q20 q21
  refine (toComplex_c p0 _ x0 _ (hS4.old g0) (by omega)).mono ?_
  rintro e w5 ⟨y0, rfl, hN⟩
  have hS5 := hS4.call1 hN
  clear hN hS4
  obtain ⟨y0p, y0l, y0c, rfl⟩ := hS5.hd.form
  try unfold cx
  have q30 : w5.cell? ⟨w.heap.size, 0, none⟩ = some (.int .i64 (p0)) := ((hS5.hd4)).c0
  have q31 : w5.cell? ⟨w.heap.size, 1, none⟩ = some (.slice up0 ul0 uc0) := ((hS5.hd4)).c1
  have hS6 := hS5.box (p0) (.slice y0p y0l y0c) 38
  have qq00 := ((hS6.hd)).c0
  have qq01 := ((hS6.hd)).c1
  have qq40 := ((hS6.hd5)).c0
  have qq41 := ((hS6.hd5)).c1
  go_wp2_with fail
  clear q30 q31 qq00 qq01 qq40 qq41 hS5
  refine (PointClasses_c p0 _ x0 _ (hS6.hd2)).mono ?_
  rw [← HR.out]
  rintro e w7 ⟨r0, rfl, hN⟩
  have hS7 := hS6.call1 hN
  clear hN hS6
  obtain ⟨r0p, r0l, r0c, rfl⟩ := hS7.hd.form
  try unfold cx
  have q10 : w7.cell? ⟨w5.heap.size, 0, none⟩ = some (.int .i64 (p0)) := ((hS7.hd2)).c0
  have q11 : w7.cell? ⟨w5.heap.size, 1, none⟩ = some (.slice y0p y0l y0c) := ((hS7.hd2)).c1
  have q50 : w7.cell? ⟨w.heap.size, 0, none⟩ = some (.int .i64 (p0)) := ((hS7.hd6)).c0
  have q51 : w7.cell? ⟨w.heap.size, 1, none⟩ = some (.slice up0 ul0 uc0) := ((hS7.hd6)).c1
  go_wp2_with fail
  clear q10 q11 q50 q51
  refine (eqIntS_c _ _ (R) (R) _ (hS7.hd) (hS7.hd4)).mono ?_
  rintro e _ ⟨rfl, n8, hN⟩
  subst hN
  have hS8 := hS7.drewN n8
  clear hS7
  have q10 : w7.cell? ⟨w5.heap.size, 0, none⟩ = some (.int .i64 (p0)) := ((hS8.hd2)).c0
  have q11 : w7.cell? ⟨w5.heap.size, 1, none⟩ = some (.slice y0p y0l y0c) := ((hS8.hd2)).c1
  have q50 : w7.cell? ⟨w.heap.size, 0, none⟩ = some (.int .i64 (p0)) := ((hS8.hd6)).c0
  have q51 : w7.cell? ⟨w.heap.size, 1, none⟩ = some (.slice up0 ul0 uc0) := ((hS8.hd6)).c1
  go_wp2_with fail
  go_region_with (first | (go_at_call 30; refine (toComplex_c p0 _ x0 _ ((hS8.drewN 1).old g0) (by omega)).mono ?_; rintro e wz ⟨zz, rfl, hNz⟩; have hZ := (hS8.drewN 1).call1 hNz; obtain ⟨zp, zl, zc, rfl⟩ := hZ.hd.form; have z10 := ((hZ.hd3)).c0; have z11 := ((hZ.hd3)).c1; have z50 := ((hZ.hd7)).c0; have z51 := ((hZ.hd7)).c1) | (go_at_call 33; refine (eqComplex_c p0 _ _ x0 _ (hZ.hd4) hZ.hd).mono ?_; rintro e wy ⟨rfl, hNy⟩; have hY := (hZ.quiet hNy).tail))
  all_goals
    have hS9 := hY
    clear hY hS8 q10 q11 q50 q51
    have q10 : wy.cell? ⟨w5.heap.size, 0, none⟩ = some (.int .i64 (p0)) := ((hS9.hd2)).c0
    have q11 : wy.cell? ⟨w5.heap.size, 1, none⟩ = some (.slice y0p y0l y0c) := ((hS9.hd2)).c1
    have q50 : wy.cell? ⟨w.heap.size, 0, none⟩ = some (.int .i64 (p0)) := ((hS9.hd6)).c0
    have q51 : wy.cell? ⟨w.heap.size, 1, none⟩ = some (.slice up0 ul0 uc0) := ((hS9.hd6)).c1
    go_wp2_with fail
    clear q10 q11 q50 q51
    have hS10 := hS9.bring (l1 := [_, _])
    clear hS9
    simp only [List.cons_append, List.nil_append] at hS10
    refine (markComplex_c (p0) _ _ 1 _ _ _ hS10.own (ints_cells _) (by omega) (by simp; omega)).mono ?_
    rintro e w11 ⟨rfl, hO, hN⟩
    rw [length_ints] at hO ⊢
    have hS11 := hS10.mut hO hN
    clear hO hN hS10
    have q20 : w11.cell? ⟨w5.heap.size, 0, none⟩ = some (.int .i64 (p0)) := ((hS11.hd3)).c0
    have q21 : w11.cell? ⟨w5.heap.size, 1, none⟩ = some (.slice y0p y0l y0c) := ((hS11.hd3)).c1
    have q50 : w11.cell? ⟨w.heap.size, 0, none⟩ = some (.int .i64 (p0)) := ((hS11.hd6)).c0
    have q51 : w11.cell? ⟨w.heap.size, 1, none⟩ = some (.slice up0 ul0 uc0) := ((hS11.hd6)).c1
    go_wp2_with fail
    clear q20 q21 q50 q51
    refine (eqIntS_c _ _ (R) (R) _ (hS11.hd2) (hS11.hd4)).mono ?_
    rintro e _ ⟨rfl, n12, hN⟩
    subst hN
    have hS12 := hS11.drewN n12
    clear hS11
    have q20 : w11.cell? ⟨w5.heap.size, 0, none⟩ = some (.int .i64 (p0)) := ((hS12.hd3)).c0
    have q21 : w11.cell? ⟨w5.heap.size, 1, none⟩ = some (.slice y0p y0l y0c) := ((hS12.hd3)).c1
    have q50 : w11.cell? ⟨w.heap.size, 0, none⟩ = some (.int .i64 (p0)) := ((hS12.hd6)).c0
    have q51 : w11.cell? ⟨w.heap.size, 1, none⟩ = some (.slice up0 ul0 uc0) := ((hS12.hd6)).c1
    go_wp2_with fail
    clear q20 q21 q50 q51
    have hS13 := hS12.bring (l1 := [_])
    clear hS12
    simp only [List.cons_append, List.nil_append] at hS13
    refine (markIntS_c _ _ 1 _ _ _ hS13.own (ints_cells _) (by omega) (by simp; omega)).mono ?_
    rintro e w14 ⟨rfl, hO, hN⟩
    rw [length_ints] at hO ⊢
    have hS14 := hS13.mut hO hN
    clear hO hN hS13
    have q20 : w14.cell? ⟨w5.heap.size, 0, none⟩ = some (.int .i64 (p0)) := ((hS14.hd3)).c0
    have q21 : w14.cell? ⟨w5.heap.size, 1, none⟩ = some (.slice y0p y0l y0c) := ((hS14.hd3)).c1
    have q50 : w14.cell? ⟨w.heap.size, 0, none⟩ = some (.int .i64 (p0)) := ((hS14.hd6)).c0
    have q51 : w14.cell? ⟨w.heap.size, 1, none⟩ = some (.slice up0 ul0 uc0) := ((hS14.hd6)).c1
    go_wp2_with fail
    clear q20 q21 q50 q51
    refine (heldIntS_c _ 1 (R).length _ (hS14.hd) (by omega) (by omega)).mono ?_
    rintro e _ ⟨rfl, n15, hN⟩
    subst hN
    have hS15 := hS14.drewN n15
    clear hS14
    have q20 : w14.cell? ⟨w5.heap.size, 0, none⟩ = some (.int .i64 (p0)) := ((hS15.hd3)).c0
    have q21 : w14.cell? ⟨w5.heap.size, 1, none⟩ = some (.slice y0p y0l y0c) := ((hS15.hd3)).c1
    have q50 : w14.cell? ⟨w.heap.size, 0, none⟩ = some (.int .i64 (p0)) := ((hS15.hd6)).c0
    have q51 : w14.cell? ⟨w.heap.size, 1, none⟩ = some (.slice up0 ul0 uc0) := ((hS15.hd6)).c1
    go_wp2_with fail
    clear q20 q21 q50 q51
    refine (toComplex_c p0 _ x0 _ (hS15.old g0) (by omega)).mono ?_
    rintro e w16 ⟨s0, rfl, hN⟩
    have hS16 := hS15.call1 hN
    clear hN hS15
    obtain ⟨s0p, s0l, s0c, rfl⟩ := hS16.hd.form
    try unfold cx
    have q30 : w16.cell? ⟨w5.heap.size, 0, none⟩ = some (.int .i64 (p0)) := ((hS16.hd4)).c0
    have q31 : w16.cell? ⟨w5.heap.size, 1, none⟩ = some (.slice y0p y0l y0c) := ((hS16.hd4)).c1
    have q60 : w16.cell? ⟨w.heap.size, 0, none⟩ = some (.int .i64 (p0)) := ((hS16.hd7)).c0
    have q61 : w16.cell? ⟨w.heap.size, 1, none⟩ = some (.slice up0 ul0 uc0) := ((hS16.hd7)).c1
    go_wp2_with fail
    clear q30 q31 q60 q61
    refine (PointClasses_c p0 _ x0 _ (hS16.hd)).mono ?_
    rw [← HR.out]
    rintro e w17 ⟨h0, rfl, hN⟩
    have hS17 := hS16.call1 hN
    clear hN hS16
    obtain ⟨h0p, h0l, h0c, rfl⟩ := hS17.hd.form
    try unfold cx
    have q40 : w17.cell? ⟨w5.heap.size, 0, none⟩ = some (.int .i64 (p0)) := ((hS17.hd5)).c0
    have q41 : w17.cell? ⟨w5.heap.size, 1, none⟩ = some (.slice y0p y0l y0c) := ((hS17.hd5)).c1
    have q70 : w17.cell? ⟨w.heap.size, 0, none⟩ = some (.int .i64 (p0)) := ((hS17.hd8)).c0
    have q71 : w17.cell? ⟨w.heap.size, 1, none⟩ = some (.slice up0 ul0 uc0) := ((hS17.hd8)).c1
    go_wp2_with fail
    clear q40 q41 q70 q71
    refine (eqIntS_c _ _ (R) (R) _ (hS17.hd) (hS17.hd6)).mono ?_
    rintro e _ ⟨rfl, n18, hN⟩
    subst hN
    have hS18 := hS17.drewN n18
    clear hS17
    have q40 : w17.cell? ⟨w5.heap.size, 0, none⟩ = some (.int .i64 (p0)) := ((hS18.hd5)).c0
    have q41 : w17.cell? ⟨w5.heap.size, 1, none⟩ = some (.slice y0p y0l y0c) := ((hS18.hd5)).c1
    have q70 : w17.cell? ⟨w.heap.size, 0, none⟩ = some (.int .i64 (p0)) := ((hS18.hd8)).c0
    have q71 : w17.cell? ⟨w.heap.size, 1, none⟩ = some (.slice up0 ul0 uc0) := ((hS18.hd8)).c1
    go_wp2_with fail
    clear q40 q41 q70 q71
    refine (heldIntS_c _ 1 (R).length _ (hS18.hd3) (by omega) (by omega)).mono ?_
    rintro e _ ⟨rfl, n19, hN⟩
    subst hN
    have hS19 := hS18.drewN n19
    clear hS18
    have q40 : w17.cell? ⟨w5.heap.size, 0, none⟩ = some (.int .i64 (p0)) := ((hS19.hd5)).c0
    have q41 : w17.cell? ⟨w5.heap.size, 1, none⟩ = some (.slice y0p y0l y0c) := ((hS19.hd5)).c1
    have q70 : w17.cell? ⟨w.heap.size, 0, none⟩ = some (.int .i64 (p0)) := ((hS19.hd8)).c0
    have q71 : w17.cell? ⟨w.heap.size, 1, none⟩ = some (.slice up0 ul0 uc0) := ((hS19.hd8)).c1
    go_wp2_with fail
    clear q40 q41 q70 q71
    go_ret
    first | exact ⟨rfl, hS19.bel⟩ | (rw [← World.drewN_drewN]; exact ⟨rfl, hS19.bel⟩)

theorem own : ownKnob Try.prog.godebug = none := by kernel_rfl
theorem laidOut : laidOutB Try.prog = true := by kernel_rfl

set_option maxRecDepth 100000 in
theorem lifted (os : Os) (started : os.Started) (H : Type) (enc : TypeId × Value → H) :
    ReturnsInHanded {} Try.checked os 10 .any (Rows.fnExactPointClassesSpec.pre6 enc Try.prog Try.f10 Rows.fnExactPointClassesRow.domain false) (Rows.fnExactPointClassesSpec.post enc Try.prog Try.f10 false true false false) := by
  refine returnsInHanded_of_change (C := Try.checked) own started (by kernel_rfl) Try.func10
    (ChangeSpec.witness6 (enc := enc) (C := Try.checked) false ⟨#[], #[.agg #[.int .i64 0, .slice none 0 0]], []⟩ 8 (by kernel_rfl) (by kernel_rfl) (by kernel_rfl) (by kernel_rfl)) ?_
  intro W base args ds gs before hval0 hW hcnd _
  have hval : ∀ (j : Nat) t v, Try.f10.params[j]? = some t → args[j]? = some v → Value.okWide Try.prog W .any base t v := hval0
  have hW' := hW
  obtain ⟨p, q, hA0, hV, rfl, hfz, hnd⟩ := hW
  have hA : DataW.TrodAll enc Try.prog W 0 (fun _ => true) true Try.f10.params.toList args.toList ds p := hA0
  rw [Try.params10] at hA hval
  obtain ⟨v0, vs0, d0, ds0, p0, q0, hargs, rfl, rfl, h0, r0⟩ := trodAll_cons hA
  obtain ⟨rfl, rfl, rfl⟩ := trodAll_nil r0
  obtain rfl : args = #[v0] := by cases args; simp_all
  obtain ⟨rfl, rfl⟩ := trodVars_none hV
  have k0 := h0
  have lt0 : ∀ x ∈ p0, x.block < W.heap.size := by obtain ⟨m, hm⟩ := k0; exact DataW.trod_lt m _ _ _ hm
  obtain ⟨b0, c0, y0, y0', n0, rfl, _, _, i0, m0⟩ := Go.Joins.open_agg2 Try.underlying36 (by kernel_rfl) (by kernel_rfl) (hval 0 36 v0 rfl rfl) h0
  obtain ⟨a0, hc0, _⟩ := DataW.trod_int Try.underlying3 i0
  obtain rfl : b0 = .int .i64 a0 := by simpa using hc0
  obtain ⟨z0, g0⟩ : ∃ zs, Rd W c0 (ints zs) := by
    rcases open_ints Try.underlying34 Try.underlying3 (by kernel_rfl) m0 with ⟨hcs, _⟩ | ⟨x, l, c, zs, hcs, _, hl, hm, hz, _, hcell, _⟩
    · obtain rfl : c0 = .slice none 0 0 := by simpa using hcs
      exact ⟨[], .inl ⟨rfl, rfl⟩⟩
    · obtain rfl : c0 = .slice (some x) l c := by simpa using hcs
      exact ⟨_, rd_of_open hl hm (by simp at hz; omega) hcell⟩
  clear hA0 hval0
  refine (law_c a0 _ z0 W g0).mono fun e W' ⟨he, bel⟩ => ?_
  subst he
  exact ⟨_, rfl, _, _, _, [], _, [], hW', trodAll_mk1 (shut_bool Try.underlying4 _), (trodAll_cons_mk (Below.trod laidOut (by kernel_rfl) (of_decide_eq_true (by kernel_rfl)) k0 bel lt0) trodAll_mk0), rfl, bel.frame _, fun h => by cases h⟩

theorem over : Rows.fnExactPointClassesRow.holds Try.pinned (OpenSpec.ofChange Rows.fnExactPointClassesSpec) :=
  OpenClaim.holds_of_wide 10 Try.f10 rfl rfl rfl rfl rfl rfl rfl ⟨rfl, rfl, rfl, rfl, rfl⟩ rfl rfl rfl rfl rfl (by kernel_rfl) Try.func10 (by kernel_rfl)
    (of_decide_eq_true (by kernel_rfl)) (by unfold Func.isWrapper; first | (rw [if_pos (by decide +kernel)]; kernel_rfl) | (rw [if_neg (by decide +kernel)]; exact ⟨rfl, rfl⟩))
    (fun os started H enc _ => lifted os started H enc)

theorem proved : Rows.FnExactPointClassesSaid :=
  over
end Go.Proofs.Ytkfkmncecihflaa.fnExactPointClasses
