/-
  The statement Rows.FnExactCountSymmetriesSaid: the law answers true at every input, and its arguments read afterwards as before. No further condition.
-/
import Derived.Test.YtkfkmncecihflaaSyms3
import Derived.Test.YtkfkmncecihflaaCxLaws
import Derived.Lib.SmallJoins
import Derived.ProofKit
import Derived.OpenShut
import Derived.ChangeOld
namespace Go.Proofs.Ytkfkmncecihflaa.fnExactCountSymmetries
open Go.ChangeShapes Go.WideShapes Go.ChangeAt Go.RowKit
set_option linter.unusedVariables false

set_option maxHeartbeats 8000000 in
set_option maxRecDepth 100000 in
theorem law_c (p0 : Int) (u0 : Value) (x0 : List Int) (w : World) (g0 : Rd w u0 (ints x0)) : Calls Try.prog 9 #[cx p0 u0] w fun e w' => e = .returned (.bool true) ∧ Below w.heap.size w w' := by
  obtain ⟨up0, ul0, uc0, rfl⟩ := g0.form
  unfold cx
  have la0 := g0.iln tI
  by_cases hbig : (1048576 : Int) < x0.length
  · skip
    go_enter Try.func9, Try.ntmps9
    have hS0 := St.start w
    have hS1 := hS0.boxAt p0 (.slice up0 ul0 uc0) 36 (H := w.heap.size) rfl
    clear hS0
    have q00 : (w.alloc (.cells #[.int .i64 p0, (.slice up0 ul0 uc0)] 36)).cell? ⟨w.heap.size, 0, none⟩ = some (.int .i64 (p0)) := ((hS1.hd)).c0
    have q01 : (w.alloc (.cells #[.int .i64 p0, (.slice up0 ul0 uc0)] 36)).cell? ⟨w.heap.size, 1, none⟩ = some (.slice up0 ul0 uc0) := ((hS1.hd)).c1
    go_wp2_with fail
    clear q00 q01
    refine (szComplex_big p0 _ x0 (1048576) _ (hS1.old g0) (by omega) (by omega)).mono ?_
    rintro e w2 ⟨rfl, hN⟩
    have hS2 := hS1.quiet hN
    clear hN hS1
    have q00 : w2.cell? ⟨w.heap.size, 0, none⟩ = some (.int .i64 (p0)) := ((hS2.hd)).c0
    have q01 : w2.cell? ⟨w.heap.size, 1, none⟩ = some (.slice up0 ul0 uc0) := ((hS2.hd)).c1
    go_wp2_with fail
    clear q00 q01
    go_ret
    first | exact ⟨rfl, hS2.bel⟩ | (rw [← World.drewN_drewN]; exact ⟨rfl, hS2.bel⟩)
  have hx0 : x0.length ≤ 1048576 := by omega
  have hy0 : (x0.length : Int) ≤ 1048576 := by omega
  clear hbig
  go_enter Try.func9, Try.ntmps9
  have hS0 := St.start w
  have hS1 := hS0.boxAt p0 (.slice up0 ul0 uc0) 36 (H := w.heap.size) rfl
  clear hS0
  have q00 : (w.alloc (.cells #[.int .i64 p0, (.slice up0 ul0 uc0)] 36)).cell? ⟨w.heap.size, 0, none⟩ = some (.int .i64 (p0)) := ((hS1.hd)).c0
  have q01 : (w.alloc (.cells #[.int .i64 p0, (.slice up0 ul0 uc0)] 36)).cell? ⟨w.heap.size, 1, none⟩ = some (.slice up0 ul0 uc0) := ((hS1.hd)).c1
  go_wp2_with fail
  clear q00 q01
  refine (szComplex_ok p0 _ x0 (1048576) _ (hS1.old g0) (by omega) (by omega)).mono ?_
  rintro e w2 ⟨rfl, hN⟩
  have hS2 := hS1.quiet hN
  clear hN hS1
  have q00 : w2.cell? ⟨w.heap.size, 0, none⟩ = some (.int .i64 (p0)) := ((hS2.hd)).c0
  have q01 : w2.cell? ⟨w.heap.size, 1, none⟩ = some (.slice up0 ul0 uc0) := ((hS2.hd)).c1
  go_wp2_with fail
  clear q00 q01
  refine (toComplex_c p0 _ x0 _ (hS2.old g0) (by omega)).mono ?_
  rintro e w3 ⟨t0, rfl, hN⟩
  have hS3 := hS2.call1 hN
  clear hN hS2
  obtain ⟨t0p, t0l, t0c, rfl⟩ := hS3.hd.form
  try unfold cx
  have q10 : w3.cell? ⟨w.heap.size, 0, none⟩ = some (.int .i64 (p0)) := ((hS3.hd2)).c0
  have q11 : w3.cell? ⟨w.heap.size, 1, none⟩ = some (.slice up0 ul0 uc0) := ((hS3.hd2)).c1
  go_wp2_with fail
  clear q10 q11
  refine (sCountSymmetries_c p0 _ x0 _ (hS3.hd)).mono ?_
  rintro e w4 ⟨rfl, hN⟩
  have hS4 := hS3.quiet hN
  clear hN hS3
  have q10 : w4.cell? ⟨w.heap.size, 0, none⟩ = some (.int .i64 (p0)) := ((hS4.hd2)).c0
  have q11 : w4.cell? ⟨w.heap.size, 1, none⟩ = some (.slice up0 ul0 uc0) := ((hS4.hd2)).c1
  go_wp2_with fail
  clear q10 q11
  refine (toComplex_c p0 _ x0 _ (hS4.old g0) (by omega)).mono ?_
  rintro e w5 ⟨y0, rfl, hN⟩
  have hS5 := hS4.call1 hN
  clear hN hS4
  obtain ⟨y0p, y0l, y0c, rfl⟩ := hS5.hd.form
  try unfold cx
  have q20 : w5.cell? ⟨w.heap.size, 0, none⟩ = some (.int .i64 (p0)) := ((hS5.hd3)).c0
  have q21 : w5.cell? ⟨w.heap.size, 1, none⟩ = some (.slice up0 ul0 uc0) := ((hS5.hd3)).c1
  have hS6 := hS5.box (p0) (.slice y0p y0l y0c) 38
  have qq00 := ((hS6.hd)).c0
  have qq01 := ((hS6.hd)).c1
  have qq30 := ((hS6.hd4)).c0
  have qq31 := ((hS6.hd4)).c1
  go_wp2_with fail
  clear q20 q21 qq00 qq01 qq30 qq31 hS5
  refine (CountSymmetries_c p0 _ x0 _ (hS6.hd2)).mono ?_
  rintro e w7 ⟨rfl, hN⟩
  have hS7 := hS6.quiet hN
  clear hN hS6
  have q00 : w7.cell? ⟨w5.heap.size, 0, none⟩ = some (.int .i64 (p0)) := ((hS7.hd)).c0
  have q01 : w7.cell? ⟨w5.heap.size, 1, none⟩ = some (.slice y0p y0l y0c) := ((hS7.hd)).c1
  have q30 : w7.cell? ⟨w.heap.size, 0, none⟩ = some (.int .i64 (p0)) := ((hS7.hd4)).c0
  have q31 : w7.cell? ⟨w.heap.size, 1, none⟩ = some (.slice up0 ul0 uc0) := ((hS7.hd4)).c1
  go_wp2_with fail
  go_region_with (first | (go_at_call 30; refine (toComplex_c p0 _ x0 _ ((hS7.drewN 1).old g0) (by omega)).mono ?_; rintro e wz ⟨zz, rfl, hNz⟩; have hZ := (hS7.drewN 1).call1 hNz; obtain ⟨zp, zl, zc, rfl⟩ := hZ.hd.form; have z00 := ((hZ.hd2)).c0; have z01 := ((hZ.hd2)).c1; have z30 := ((hZ.hd5)).c0; have z31 := ((hZ.hd5)).c1) | (go_at_call 33; refine (eqComplex_c p0 _ _ x0 _ (hZ.hd3) hZ.hd).mono ?_; rintro e wy ⟨rfl, hNy⟩; have hY := (hZ.quiet hNy).tail))
  all_goals
    have hS8 := hY
    clear hY hS7 q00 q01 q30 q31
    have q00 : wy.cell? ⟨w5.heap.size, 0, none⟩ = some (.int .i64 (p0)) := ((hS8.hd)).c0
    have q01 : wy.cell? ⟨w5.heap.size, 1, none⟩ = some (.slice y0p y0l y0c) := ((hS8.hd)).c1
    have q30 : wy.cell? ⟨w.heap.size, 0, none⟩ = some (.int .i64 (p0)) := ((hS8.hd4)).c0
    have q31 : wy.cell? ⟨w.heap.size, 1, none⟩ = some (.slice up0 ul0 uc0) := ((hS8.hd4)).c1
    go_wp2_with fail
    clear q00 q01 q30 q31
    go_ret
    first | exact ⟨rfl, hS8.bel⟩ | (rw [← World.drewN_drewN]; exact ⟨rfl, hS8.bel⟩)

theorem own : ownKnob Try.prog.godebug = none := by kernel_rfl
theorem laidOut : laidOutB Try.prog = true := by kernel_rfl

set_option maxRecDepth 100000 in
theorem lifted (os : Os) (started : os.Started) (H : Type) (enc : TypeId × Value → H) :
    ReturnsInHanded {} Try.checked os 9 .any (Rows.fnExactCountSymmetriesSpec.pre6 enc Try.prog Try.f9 Rows.fnExactCountSymmetriesRow.domain false) (Rows.fnExactCountSymmetriesSpec.post enc Try.prog Try.f9 false true false false) := by
  refine returnsInHanded_of_change (C := Try.checked) own started (by kernel_rfl) Try.func9
    (ChangeSpec.witness6 (enc := enc) (C := Try.checked) false ⟨#[], #[.agg #[.int .i64 0, .slice none 0 0]], []⟩ 8 (by kernel_rfl) (by kernel_rfl) (by kernel_rfl) (by kernel_rfl)) ?_
  intro W base args ds gs before hval0 hW hcnd _
  have hval : ∀ (j : Nat) t v, Try.f9.params[j]? = some t → args[j]? = some v → Value.okWide Try.prog W .any base t v := hval0
  have hW' := hW
  obtain ⟨p, q, hA0, hV, rfl, hfz, hnd⟩ := hW
  have hA : DataW.TrodAll enc Try.prog W 0 (fun _ => true) true Try.f9.params.toList args.toList ds p := hA0
  rw [Try.params9] at hA hval
  obtain ⟨v0, vs0, d0, ds0, p0, q0, hargs, rfl, rfl, h0, r0⟩ := trodAll_cons hA
  obtain ⟨rfl, rfl, rfl⟩ := trodAll_nil r0
  obtain rfl : args = #[v0] := by cases args; simp_all
  obtain ⟨rfl, rfl⟩ := trodVars_none hV
  have k0 := h0
  have lt0 : ∀ x ∈ p0, x.block < W.heap.size := by obtain ⟨m, hm⟩ := k0; exact DataW.trod_lt m _ _ _ hm
  obtain ⟨b0, c0, y0, y0', n0, rfl, _, _, i0, m0⟩ := Go.Joins.open_agg2 Try.underlying36 (by kernel_rfl) (by kernel_rfl) (hval 0 36 v0 rfl rfl) h0
  obtain ⟨a0, hc0, _⟩ := DataW.trod_int Try.underlying3 i0
  obtain rfl : b0 = .int .i64 a0 := by simpa using hc0
  obtain ⟨z0, g0⟩ : ∃ zs, Rd W c0 (ints zs) := by
    rcases open_ints Try.underlying34 Try.underlying3 (by kernel_rfl) m0 with ⟨hcs, _⟩ | ⟨x, l, c, zs, hcs, _, hl, hm, hz, _, hcell, _⟩
    · obtain rfl : c0 = .slice none 0 0 := by simpa using hcs
      exact ⟨[], .inl ⟨rfl, rfl⟩⟩
    · obtain rfl : c0 = .slice (some x) l c := by simpa using hcs
      exact ⟨_, rd_of_open hl hm (by simp at hz; omega) hcell⟩
  clear hA0 hval0
  refine (law_c a0 _ z0 W g0).mono fun e W' ⟨he, bel⟩ => ?_
  subst he
  exact ⟨_, rfl, _, _, _, [], _, [], hW', trodAll_mk1 (shut_bool Try.underlying4 _), (trodAll_cons_mk (Below.trod laidOut (by kernel_rfl) (of_decide_eq_true (by kernel_rfl)) k0 bel lt0) trodAll_mk0), rfl, bel.frame _, fun h => by cases h⟩

theorem over : Rows.fnExactCountSymmetriesRow.holds Try.pinned (OpenSpec.ofChange Rows.fnExactCountSymmetriesSpec) :=
  OpenClaim.holds_of_wide 9 Try.f9 rfl rfl rfl rfl rfl rfl rfl ⟨rfl, rfl, rfl, rfl, rfl⟩ rfl rfl rfl rfl rfl (by kernel_rfl) Try.func9 (by kernel_rfl)
    (of_decide_eq_true (by kernel_rfl)) (by unfold Func.isWrapper; first | (rw [if_pos (by decide +kernel)]; kernel_rfl) | (rw [if_neg (by decide +kernel)]; exact ⟨rfl, rfl⟩))
    (fun os started H enc _ => lifted os started H enc)

theorem proved : Rows.FnExactCountSymmetriesSaid :=
  over
end Go.Proofs.Ytkfkmncecihflaa.fnExactCountSymmetries
