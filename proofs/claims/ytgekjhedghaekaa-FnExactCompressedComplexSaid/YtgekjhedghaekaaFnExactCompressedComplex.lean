/-
  The statement Rows.FnExactCompressedComplexSaid: the law answers true at every input, and its arguments read afterwards as before. No further condition.
-/
import Derived.Test.YtgekjhedghaekaaComp
import Derived.Test.YtgekjhedghaekaaCxLaws
import Derived.ProofKit
import Derived.OpenShut
import Derived.ChangeOld
namespace Go.Proofs.Ytgekjhedghaekaa.fnExactCompressedComplex
open Go.ChangeShapes Go.WideShapes Go.ChangeAt Go.RowKit
set_option linter.unusedVariables false

set_option maxHeartbeats 8000000 in
set_option maxRecDepth 100000 in
theorem law_c (u0 : Value) (x0 : List Int) (w : World) (g0 : Rd w u0 (ints x0)) : Calls Try.prog 5 #[u0] w fun e w' => e = .returned (.bool true) ∧ Below w.heap.size w w' := by
  have hR : (resL (cmpB x0) (cmpL x0)).length ≤ 1000000 := resL_len _ _ (maxL_len _)
  obtain ⟨R, hRR⟩ : ∃ R, R = resL (cmpB x0) (cmpL x0) := ⟨_, rfl⟩
  have HR := hid hRR; rw [← hRR] at hR; clear hRR
  obtain ⟨NN, hNN⟩ : ∃ N, N = resN (cmpB x0) 6 := ⟨_, rfl⟩
  have HN := hid hNN; clear hNN
  obtain ⟨BB, hBB⟩ : ∃ B, B = cmpB x0 := ⟨_, rfl⟩
  have HBB := hid hBB; clear hBB
  have eBB : (BB != BB) = false := by simp
  have la0 := g0.iln tI
  by_cases hbig : (1048576 : Int) < x0.length
  · skip
    go_enter Try.func5, Try.ntmps5
    have hS0 := St.start w
    go_wp2_with fail
    go_ret
    first | exact ⟨rfl, hS0.bel⟩ | (rw [← World.drewN_drewN]; exact ⟨rfl, hS0.bel⟩)
  have hx0 : x0.length ≤ 1048576 := by omega
  have hy0 : (x0.length : Int) ≤ 1048576 := by omega
  clear hbig
  go_enter Try.func5, Try.ntmps5
  have hS0 := St.start w
  go_wp2_with fail
  refine (toIntS_c _ x0 _ (hS0.old g0) (by omega)).mono ?_
  rintro e w1 ⟨t0, rfl, hN⟩
  have hS1 := hS0.call1 hN
  clear hN hS0
  obtain ⟨t0p, t0l, t0c, rfl⟩ := hS1.hd.form
  try unfold cx
  go_wp2_with fail
  refine (sCompressedComplex_c _ x0 _ (hS1.hd)).mono ?_
  rw [← HR.out, ← HN.out, ← HBB.out]
  rintro e w2 ⟨v0, rfl, hN⟩
  have hS2 := hS1.call1 hN
  clear hN hS1
  obtain ⟨v0p, v0l, v0c, rfl⟩ := hS2.hd.form
  try unfold cx
  have hS3 := hS2.box (NN) (.slice v0p v0l v0c) 26
  have qq00 := ((hS3.hd)).c0
  have qq01 := ((hS3.hd)).c1
  go_wp2_with fail
  clear qq00 qq01 hS2
  refine (toIntS_c _ x0 _ (hS3.old g0) (by omega)).mono ?_
  rintro e w4 ⟨y0, rfl, hN⟩
  have hS4 := hS3.call1 hN
  clear hN hS3
  obtain ⟨y0p, y0l, y0c, rfl⟩ := hS4.hd.form
  try unfold cx
  have q10 : w4.cell? ⟨w2.heap.size, 0, none⟩ = some (.int .i64 (NN)) := ((hS4.hd2)).c0
  have q11 : w4.cell? ⟨w2.heap.size, 1, none⟩ = some (.slice v0p v0l v0c) := ((hS4.hd2)).c1
  go_wp2_with fail
  clear q10 q11
  refine (CompressedComplex_c _ x0 _ (hS4.hd)).mono ?_
  rw [← HR.out, ← HN.out, ← HBB.out]
  rintro e w5 ⟨r0, rfl, hN⟩
  have hS5 := hS4.call1 hN
  clear hN hS4
  obtain ⟨r0p, r0l, r0c, rfl⟩ := hS5.hd.form
  try unfold cx
  have q20 : w5.cell? ⟨w2.heap.size, 0, none⟩ = some (.int .i64 (NN)) := ((hS5.hd3)).c0
  have q21 : w5.cell? ⟨w2.heap.size, 1, none⟩ = some (.slice v0p v0l v0c) := ((hS5.hd3)).c1
  have hS6 := hS5.box (NN) (.slice r0p r0l r0c) 26
  have qq00 := ((hS6.hd)).c0
  have qq01 := ((hS6.hd)).c1
  have qq30 := ((hS6.hd4)).c0
  have qq31 := ((hS6.hd4)).c1
  go_wp2_with fail
  clear q20 q21 qq00 qq01 qq30 qq31 hS5
  refine (eqComplex_c (NN) _ _ (R) _ (hS6.hd2) (hS6.hd5)).mono ?_
  rintro e w7 ⟨rfl, hN⟩
  have hS7 := hS6.quiet hN
  clear hN hS6
  have q00 : w7.cell? ⟨w5.heap.size, 0, none⟩ = some (.int .i64 (NN)) := ((hS7.hd)).c0
  have q01 : w7.cell? ⟨w5.heap.size, 1, none⟩ = some (.slice r0p r0l r0c) := ((hS7.hd)).c1
  have q30 : w7.cell? ⟨w2.heap.size, 0, none⟩ = some (.int .i64 (NN)) := ((hS7.hd4)).c0
  have q31 : w7.cell? ⟨w2.heap.size, 1, none⟩ = some (.slice v0p v0l v0c) := ((hS7.hd4)).c1
  go_wp2_with fail
  clear q00 q01 q30 q31
  refine (toIntS_c _ x0 _ (hS7.old g0) (by omega)).mono ?_
  rintro e w8 ⟨z0, rfl, hN⟩
  have hS8 := hS7.call1 hN
  clear hN hS7
  obtain ⟨z0p, z0l, z0c, rfl⟩ := hS8.hd.form
  try unfold cx
  have q10 : w8.cell? ⟨w5.heap.size, 0, none⟩ = some (.int .i64 (NN)) := ((hS8.hd2)).c0
  have q11 : w8.cell? ⟨w5.heap.size, 1, none⟩ = some (.slice r0p r0l r0c) := ((hS8.hd2)).c1
  have q40 : w8.cell? ⟨w2.heap.size, 0, none⟩ = some (.int .i64 (NN)) := ((hS8.hd5)).c0
  have q41 : w8.cell? ⟨w2.heap.size, 1, none⟩ = some (.slice v0p v0l v0c) := ((hS8.hd5)).c1
  go_wp2_with fail
  clear q10 q11 q40 q41
  refine (eqIntS_c _ _ (x0) (x0) _ (hS8.hd4) (hS8.hd)).mono ?_
  rintro e _ ⟨rfl, n9, hN⟩
  subst hN
  have hS9 := hS8.drewN n9
  clear hS8
  have q10 : w8.cell? ⟨w5.heap.size, 0, none⟩ = some (.int .i64 (NN)) := ((hS9.hd2)).c0
  have q11 : w8.cell? ⟨w5.heap.size, 1, none⟩ = some (.slice r0p r0l r0c) := ((hS9.hd2)).c1
  have q40 : w8.cell? ⟨w2.heap.size, 0, none⟩ = some (.int .i64 (NN)) := ((hS9.hd5)).c0
  have q41 : w8.cell? ⟨w2.heap.size, 1, none⟩ = some (.slice v0p v0l v0c) := ((hS9.hd5)).c1
  go_wp2_with fail
  clear q10 q11 q40 q41
  have hS10 := hS9.bring (l1 := [_, _, _])
  clear hS9
  simp only [List.cons_append, List.nil_append] at hS10
  refine (markIntS_c _ _ 1 _ _ _ hS10.own (ints_cells _) (by omega) (by simp; omega)).mono ?_
  rintro e w11 ⟨rfl, hO, hN⟩
  rw [length_ints] at hO ⊢
  have hS11 := hS10.mut hO hN
  clear hO hN hS10
  have q20 : w11.cell? ⟨w5.heap.size, 0, none⟩ = some (.int .i64 (NN)) := ((hS11.hd3)).c0
  have q21 : w11.cell? ⟨w5.heap.size, 1, none⟩ = some (.slice r0p r0l r0c) := ((hS11.hd3)).c1
  have q40 : w11.cell? ⟨w2.heap.size, 0, none⟩ = some (.int .i64 (NN)) := ((hS11.hd5)).c0
  have q41 : w11.cell? ⟨w2.heap.size, 1, none⟩ = some (.slice v0p v0l v0c) := ((hS11.hd5)).c1
  go_wp2_with fail
  clear q20 q21 q40 q41
  refine (eqComplex_c (NN) _ _ (R) _ (hS11.hd4) (hS11.hd6)).mono ?_
  rintro e w12 ⟨rfl, hN⟩
  have hS12 := hS11.quiet hN
  clear hN hS11
  have q20 : w12.cell? ⟨w5.heap.size, 0, none⟩ = some (.int .i64 (NN)) := ((hS12.hd3)).c0
  have q21 : w12.cell? ⟨w5.heap.size, 1, none⟩ = some (.slice r0p r0l r0c) := ((hS12.hd3)).c1
  have q40 : w12.cell? ⟨w2.heap.size, 0, none⟩ = some (.int .i64 (NN)) := ((hS12.hd5)).c0
  have q41 : w12.cell? ⟨w2.heap.size, 1, none⟩ = some (.slice v0p v0l v0c) := ((hS12.hd5)).c1
  go_wp2_with fail
  clear q20 q21 q40 q41
  have hS13 := hS12.bring (l1 := [_, _, _])
  clear hS12
  simp only [List.cons_append, List.nil_append] at hS13
  refine (markComplex_c (NN) _ _ 1 _ _ _ hS13.own (ints_cells _) (by omega) (by simp; omega)).mono ?_
  rintro e w14 ⟨rfl, hO, hN⟩
  rw [length_ints] at hO ⊢
  have hS14 := hS13.mut hO hN
  clear hO hN hS13
  have q30 : w14.cell? ⟨w5.heap.size, 0, none⟩ = some (.int .i64 (NN)) := ((hS14.hd4)).c0
  have q31 : w14.cell? ⟨w5.heap.size, 1, none⟩ = some (.slice r0p r0l r0c) := ((hS14.hd4)).c1
  have q40 : w14.cell? ⟨w2.heap.size, 0, none⟩ = some (.int .i64 (NN)) := ((hS14.hd5)).c0
  have q41 : w14.cell? ⟨w2.heap.size, 1, none⟩ = some (.slice v0p v0l v0c) := ((hS14.hd5)).c1
  go_wp2_with fail
  clear q30 q31 q40 q41
  refine (heldComplex_c (NN) _ 1 (R).length _ (hS14.hd) (by omega) (by omega)).mono ?_
  rintro e w15 ⟨rfl, hN⟩
  have hS15 := hS14.quiet hN
  clear hN hS14
  have q30 : w15.cell? ⟨w5.heap.size, 0, none⟩ = some (.int .i64 (NN)) := ((hS15.hd4)).c0
  have q31 : w15.cell? ⟨w5.heap.size, 1, none⟩ = some (.slice r0p r0l r0c) := ((hS15.hd4)).c1
  have q40 : w15.cell? ⟨w2.heap.size, 0, none⟩ = some (.int .i64 (NN)) := ((hS15.hd5)).c0
  have q41 : w15.cell? ⟨w2.heap.size, 1, none⟩ = some (.slice v0p v0l v0c) := ((hS15.hd5)).c1
  go_wp2_with fail
  clear q30 q31 q40 q41
  refine (toIntS_c _ x0 _ (hS15.old g0) (by omega)).mono ?_
  rintro e w16 ⟨s0, rfl, hN⟩
  have hS16 := hS15.call1 hN
  clear hN hS15
  obtain ⟨s0p, s0l, s0c, rfl⟩ := hS16.hd.form
  try unfold cx
  have q40 : w16.cell? ⟨w5.heap.size, 0, none⟩ = some (.int .i64 (NN)) := ((hS16.hd5)).c0
  have q41 : w16.cell? ⟨w5.heap.size, 1, none⟩ = some (.slice r0p r0l r0c) := ((hS16.hd5)).c1
  have q50 : w16.cell? ⟨w2.heap.size, 0, none⟩ = some (.int .i64 (NN)) := ((hS16.hd6)).c0
  have q51 : w16.cell? ⟨w2.heap.size, 1, none⟩ = some (.slice v0p v0l v0c) := ((hS16.hd6)).c1
  go_wp2_with fail
  clear q40 q41 q50 q51
  refine (CompressedComplex_c _ x0 _ (hS16.hd)).mono ?_
  rw [← HR.out, ← HN.out, ← HBB.out]
  rintro e w17 ⟨h0, rfl, hN⟩
  have hS17 := hS16.call1 hN
  clear hN hS16
  obtain ⟨h0p, h0l, h0c, rfl⟩ := hS17.hd.form
  try unfold cx
  have q50 : w17.cell? ⟨w5.heap.size, 0, none⟩ = some (.int .i64 (NN)) := ((hS17.hd6)).c0
  have q51 : w17.cell? ⟨w5.heap.size, 1, none⟩ = some (.slice r0p r0l r0c) := ((hS17.hd6)).c1
  have q60 : w17.cell? ⟨w2.heap.size, 0, none⟩ = some (.int .i64 (NN)) := ((hS17.hd7)).c0
  have q61 : w17.cell? ⟨w2.heap.size, 1, none⟩ = some (.slice v0p v0l v0c) := ((hS17.hd7)).c1
  have hS18 := hS17.box (NN) (.slice h0p h0l h0c) 26
  have qq00 := ((hS18.hd)).c0
  have qq01 := ((hS18.hd)).c1
  have qq60 := ((hS18.hd7)).c0
  have qq61 := ((hS18.hd7)).c1
  have qq70 := ((hS18.hd8)).c0
  have qq71 := ((hS18.hd8)).c1
  go_wp2_with fail
  clear q50 q51 q60 q61 qq00 qq01 qq60 qq61 qq70 qq71 hS17
  refine (eqComplex_c (NN) _ _ (R) _ (hS18.hd2) (hS18.hd9)).mono ?_
  rintro e w19 ⟨rfl, hN⟩
  have hS19 := hS18.quiet hN
  clear hN hS18
  have q00 : w19.cell? ⟨w17.heap.size, 0, none⟩ = some (.int .i64 (NN)) := ((hS19.hd)).c0
  have q01 : w19.cell? ⟨w17.heap.size, 1, none⟩ = some (.slice h0p h0l h0c) := ((hS19.hd)).c1
  have q60 : w19.cell? ⟨w5.heap.size, 0, none⟩ = some (.int .i64 (NN)) := ((hS19.hd7)).c0
  have q61 : w19.cell? ⟨w5.heap.size, 1, none⟩ = some (.slice r0p r0l r0c) := ((hS19.hd7)).c1
  have q70 : w19.cell? ⟨w2.heap.size, 0, none⟩ = some (.int .i64 (NN)) := ((hS19.hd8)).c0
  have q71 : w19.cell? ⟨w2.heap.size, 1, none⟩ = some (.slice v0p v0l v0c) := ((hS19.hd8)).c1
  go_wp2_with fail
  clear q00 q01 q60 q61 q70 q71
  refine (heldComplex_c (NN) _ 1 (R).length _ (hS19.hd4) (by omega) (by omega)).mono ?_
  rintro e w20 ⟨rfl, hN⟩
  have hS20 := hS19.quiet hN
  clear hN hS19
  have q00 : w20.cell? ⟨w17.heap.size, 0, none⟩ = some (.int .i64 (NN)) := ((hS20.hd)).c0
  have q01 : w20.cell? ⟨w17.heap.size, 1, none⟩ = some (.slice h0p h0l h0c) := ((hS20.hd)).c1
  have q60 : w20.cell? ⟨w5.heap.size, 0, none⟩ = some (.int .i64 (NN)) := ((hS20.hd7)).c0
  have q61 : w20.cell? ⟨w5.heap.size, 1, none⟩ = some (.slice r0p r0l r0c) := ((hS20.hd7)).c1
  have q70 : w20.cell? ⟨w2.heap.size, 0, none⟩ = some (.int .i64 (NN)) := ((hS20.hd8)).c0
  have q71 : w20.cell? ⟨w2.heap.size, 1, none⟩ = some (.slice v0p v0l v0c) := ((hS20.hd8)).c1
  go_wp2_with fail
  clear q00 q01 q60 q61 q70 q71
  go_ret
  first | exact ⟨rfl, hS20.bel⟩ | (rw [← World.drewN_drewN]; exact ⟨rfl, hS20.bel⟩)

theorem own : ownKnob Try.prog.godebug = none := by kernel_rfl
theorem laidOut : laidOutB Try.prog = true := by kernel_rfl

set_option maxRecDepth 100000 in
theorem lifted (os : Os) (started : os.Started) (H : Type) (enc : TypeId × Value → H) :
    ReturnsInHanded {} Try.checked os 5 .any (Rows.fnExactCompressedComplexSpec.pre6 enc Try.prog Try.f5 Rows.fnExactCompressedComplexRow.domain false) (Rows.fnExactCompressedComplexSpec.post enc Try.prog Try.f5 false true false false) := by
  refine returnsInHanded_of_change (C := Try.checked) own started (by kernel_rfl) Try.func5
    (ChangeSpec.witness6 (enc := enc) (C := Try.checked) false ⟨#[], #[.slice none 0 0], []⟩ 8 (by kernel_rfl) (by kernel_rfl) (by kernel_rfl) (by kernel_rfl)) ?_
  intro W base args ds gs before hval0 hW hcnd _
  have hval : ∀ (j : Nat) t v, Try.f5.params[j]? = some t → args[j]? = some v → Value.okWide Try.prog W .any base t v := hval0
  have hW' := hW
  obtain ⟨p, q, hA0, hV, rfl, hfz, hnd⟩ := hW
  have hA : DataW.TrodAll enc Try.prog W 0 (fun _ => true) true Try.f5.params.toList args.toList ds p := hA0
  rw [Try.params5] at hA hval
  obtain ⟨v0, vs0, d0, ds0, p0, q0, hargs, rfl, rfl, h0, r0⟩ := trodAll_cons hA
  obtain ⟨rfl, rfl, rfl⟩ := trodAll_nil r0
  obtain rfl : args = #[v0] := by cases args; simp_all
  obtain ⟨rfl, rfl⟩ := trodVars_none hV
  obtain ⟨s0, len0, cap0, rfl⟩ := okWide_slice Try.underlying22 (hval 0 22 v0 rfl rfl)
  have k0 := h0
  have lt0 : ∀ x ∈ p0, x.block < W.heap.size := by obtain ⟨m, hm⟩ := k0; exact DataW.trod_lt m _ _ _ hm
  obtain ⟨z0, g0⟩ : ∃ zs, Rd W (.slice s0 len0 cap0) (ints zs) := by
    obtain ⟨fuel, hf⟩ := h0
    rcases open_ints Try.underlying22 Try.underlying3 (by kernel_rfl) hf with ⟨hcs, _⟩ | ⟨x, l, c, zs, hcs, _, hl, hm, hz, _, hcell, _⟩
    · simp [Value.cells] at hcs
      obtain ⟨rfl, rfl, rfl⟩ := hcs
      exact ⟨[], .inl ⟨rfl, rfl⟩⟩
    · simp [Value.cells] at hcs
      obtain ⟨rfl, rfl, rfl⟩ := hcs
      exact ⟨_, rd_of_open hl hm (by simp at hz; omega) hcell⟩
  clear hA0 hval0
  refine (law_c _ z0 W g0).mono fun e W' ⟨he, bel⟩ => ?_
  subst he
  exact ⟨_, rfl, _, _, _, [], _, [], hW', trodAll_mk1 (shut_bool Try.underlying4 _), (trodAll_cons_mk (Below.trod laidOut (by kernel_rfl) (of_decide_eq_true (by kernel_rfl)) k0 bel lt0) trodAll_mk0), rfl, bel.frame _, fun h => by cases h⟩

theorem over : Rows.fnExactCompressedComplexRow.holds Try.pinned (OpenSpec.ofChange Rows.fnExactCompressedComplexSpec) :=
  OpenClaim.holds_of_wide 5 Try.f5 rfl rfl rfl rfl rfl rfl rfl ⟨rfl, rfl, rfl, rfl, rfl⟩ rfl rfl rfl rfl rfl (by kernel_rfl) Try.func5 (by kernel_rfl)
    (of_decide_eq_true (by kernel_rfl)) (by unfold Func.isWrapper; first | (rw [if_pos (by decide +kernel)]; kernel_rfl) | (rw [if_neg (by decide +kernel)]; exact ⟨rfl, rfl⟩))
    (fun os started H enc _ => lifted os started H enc)

theorem proved : Rows.FnExactCompressedComplexSaid :=
  over
end Go.Proofs.Ytgekjhedghaekaa.fnExactCompressedComplex
