/-
  The statement Rows.FnExactTurnMatrixSaid: the law answers true at every input, and its arguments read afterwards as before. No further condition.
-/
import Derived.Test.YtkfkmncecihflaaTurn
import Derived.Test.YtkfkmncecihflaaMLaws2
import Derived.ProofKit
import Derived.OpenShut
import Derived.ChangeOld
namespace Go.Proofs.Ytkfkmncecihflaa.fnExactTurnMatrix
open Go.ChangeShapes Go.WideShapes Go.ChangeAt Go.RowKit
set_option linter.unusedVariables false

set_option maxHeartbeats 8000000 in
set_option maxRecDepth 100000 in
theorem law_c (u0 : Value) (b0 : List Value) (x0 : List (List Int)) (w : World) (g0 : RdM w u0 b0 x0) : Calls Try.prog 5 #[u0] w fun e w' => e = .returned (.bool true) ∧ Below w.heap.size w w' := by
  have la0 := g0.ln
  by_cases hbig : (1048576 : Int) < (szN2 x0 : Int)
  · skip
    go_enter Try.func5, Try.ntmps5
    have hS0 := St.start w
    go_wp2_with fail
    refine (szIntSS_big _ b0 x0 (1048576) _ (hS0.oldM g0) (by omega) (by omega) (by omega)).mono ?_
    rintro e w1 ⟨rfl, hN⟩
    have hS1 := hS0.quiet hN
    clear hN hS0
    go_wp2_with fail
    go_ret
    first | exact ⟨rfl, hS1.bel⟩ | (rw [← World.drewN_drewN]; exact ⟨rfl, hS1.bel⟩)
  have hx0 : (szN2 x0 : Int) ≤ 1048576 := by omega
  have hy0 : (szN2 x0 : Int) ≤ 1048576 := by omega
  clear hbig
  have hz0 := szN2_cnt x0
  have hR : cnt (turnM x0) ≤ 1048576 := by have := turnM_cnt x0; omega
  obtain ⟨R, hRR⟩ : ∃ R, R = turnM x0 := ⟨_, rfl⟩
  have HR := hid hRR; rw [← hRR] at hR; clear hRR
  go_enter Try.func5, Try.ntmps5
  have hS0 := St.start w
  go_wp2_with fail
  refine (szIntSS_ok _ b0 x0 (1048576) _ (hS0.oldM g0) (by omega) (by omega)).mono ?_
  rintro e w1 ⟨rfl, hN⟩
  have hS1 := hS0.quiet hN
  clear hN hS0
  go_wp2_with fail
  refine (toIntSS_c _ b0 x0 _ (hS1.oldM g0) (by omega)).mono ?_
  rintro e w2 ⟨t0, t0r, rfl, hlt0, hN⟩
  have HLt0 := hid hlt0
  clear hlt0
  have hS2 := hS1.callM hN
  clear hN hS1
  go_wp2_with fail
  refine (sTurnMatrix_c _ _ x0 _ ((hS2).rdM HLt0.out) (by omega)).mono ?_
  rw [← HR.out]
  rintro e w3 ⟨v0, v0r, rfl, hlv0, hN⟩
  have HLv0 := hid hlv0
  clear hlv0
  have hS3 := hS2.callM hN
  clear hN hS2
  go_wp2_with fail
  refine (toIntSS_c _ b0 x0 _ (hS3.oldM g0) (by omega)).mono ?_
  rintro e w4 ⟨y0, y0r, rfl, hly0, hN⟩
  have HLy0 := hid hly0
  clear hly0
  have hS4 := hS3.callM hN
  clear hN hS3
  go_wp2_with fail
  refine (TurnMatrix_c _ _ x0 _ ((hS4).rdM HLy0.out) (by omega)).mono ?_
  rw [← HR.out]
  rintro e w5 ⟨r0, r0r, rfl, hlr0, hN⟩
  have HLr0 := hid hlr0
  clear hlr0
  have hS5 := hS4.callM hN
  clear hN hS4
  go_wp2_with fail
  refine (eqIntSS_c _ _ _ _ (R) (R) _ ((hS5).rdM HLr0.out) ((((hS5).dropRows).dropRows).rdM HLv0.out)).mono ?_
  rintro e _ ⟨rfl, n6, hN⟩
  subst hN
  have hS6 := hS5.drewN n6
  clear hS5
  go_wp2_with fail
  refine (toIntSS_c _ b0 x0 _ (hS6.oldM g0) (by omega)).mono ?_
  rintro e w7 ⟨z0, z0r, rfl, hlz0, hN⟩
  have HLz0 := hid hlz0
  clear hlz0
  have hS7 := hS6.callM hN
  clear hN hS6
  go_wp2_with fail
  refine (eqIntSS_c _ _ _ _ (x0) (x0) _ ((((hS7).dropRows).dropRows).rdM HLy0.out) ((hS7).rdM HLz0.out)).mono ?_
  rintro e _ ⟨rfl, n8, hN⟩
  subst hN
  have hS8 := hS7.drewN n8
  clear hS7
  go_wp2_with fail
  have hS9 := hS8.perm ((rowsPerm ((rowsPerm (List.Perm.refl _)).trans rowsSwap)).trans rowsSwap)
  clear hS8
  refine (markIntSS_c _ _ _ _ 1 _ _ _ hS9 HLy0.out (by omega) (by omega)).mono ?_
  rintro e w10 ⟨rfl, hN⟩
  have hS10 := hN
  clear hN hS9
  replace HLy0 : Hid (y0r.length = (markTo 1 x0 (x0).length).length) := by show _ = _; rw [markTo_len]; exact HLy0.out
  go_wp2_with fail
  refine (eqIntSS_c _ _ _ _ (R) (R) _ ((((hS10).dropRows).dropRows).rdM HLr0.out) (((((hS10).dropRows).dropRows).dropRows).rdM HLv0.out)).mono ?_
  rintro e _ ⟨rfl, n11, hN⟩
  subst hN
  have hS11 := hS10.drewN n11
  clear hS10
  go_wp2_with fail
  have hS12 := hS11.perm ((rowsPerm ((rowsPerm (List.Perm.refl _)).trans rowsSwap)).trans rowsSwap)
  clear hS11
  refine (markIntSS_c _ _ _ _ 1 _ _ _ hS12 HLr0.out (by omega) (by omega)).mono ?_
  rintro e w13 ⟨rfl, hN⟩
  have hS13 := hN
  clear hN hS12
  replace HLr0 : Hid (r0r.length = (markTo 1 R (R).length).length) := by show _ = _; rw [markTo_len]; exact HLr0.out
  go_wp2_with fail
  refine (heldIntSS_c _ _ (R) 1 _ ((hS13).rdM HLr0.out) (by omega) (by omega)).mono ?_
  rintro e _ ⟨rfl, n14, hN⟩
  subst hN
  have hS14 := hS13.drewN n14
  clear hS13
  go_wp2_with fail
  refine (toIntSS_c _ b0 x0 _ (hS14.oldM g0) (by omega)).mono ?_
  rintro e w15 ⟨s0, s0r, rfl, hls0, hN⟩
  have HLs0 := hid hls0
  clear hls0
  have hS15 := hS14.callM hN
  clear hN hS14
  go_wp2_with fail
  refine (TurnMatrix_c _ _ x0 _ ((hS15).rdM HLs0.out) (by omega)).mono ?_
  rw [← HR.out]
  rintro e w16 ⟨h0, h0r, rfl, hlh0, hN⟩
  have HLh0 := hid hlh0
  clear hlh0
  have hS16 := hS15.callM hN
  clear hN hS15
  go_wp2_with fail
  refine (eqIntSS_c _ _ _ _ (R) (R) _ ((hS16).rdM HLh0.out) (((((((hS16).dropRows).dropRows).dropRows).dropRows).dropRows).rdM HLv0.out)).mono ?_
  rintro e _ ⟨rfl, n17, hN⟩
  subst hN
  have hS17 := hS16.drewN n17
  clear hS16
  go_wp2_with fail
  refine (heldIntSS_c _ _ (R) 1 _ ((((hS17).dropRows).dropRows).rdM HLr0.out) (by omega) (by omega)).mono ?_
  rintro e _ ⟨rfl, n18, hN⟩
  subst hN
  have hS18 := hS17.drewN n18
  clear hS17
  go_wp2_with fail
  go_ret
  first | exact ⟨rfl, hS18.bel⟩ | (rw [← World.drewN_drewN]; exact ⟨rfl, hS18.bel⟩)

theorem own : ownKnob Try.prog.godebug = none := by kernel_rfl
theorem laidOut : laidOutB Try.prog = true := by kernel_rfl

set_option maxRecDepth 100000 in
theorem lifted (os : Os) (started : os.Started) (H : Type) (enc : TypeId × Value → H) :
    ReturnsInHanded {} Try.checked os 5 .any (Rows.fnExactTurnMatrixSpec.pre6 enc Try.prog Try.f5 Rows.fnExactTurnMatrixRow.domain false) (Rows.fnExactTurnMatrixSpec.post enc Try.prog Try.f5 false true false false) := by
  refine returnsInHanded_of_change (C := Try.checked) own started (by kernel_rfl) Try.func5
    (ChangeSpec.witness6 (enc := enc) (C := Try.checked) false ⟨#[], #[.slice none 0 0], []⟩ 8 (by kernel_rfl) (by kernel_rfl) (by kernel_rfl) (by kernel_rfl)) ?_
  intro W base args ds gs before hval0 hW hcnd _
  have hval : ∀ (j : Nat) t v, Try.f5.params[j]? = some t → args[j]? = some v → Value.okWide Try.prog W .any base t v := hval0
  have hW' := hW
  obtain ⟨p, q, hA0, hV, rfl, hfz, hnd⟩ := hW
  have hA : DataW.TrodAll enc Try.prog W 0 (fun _ => true) true Try.f5.params.toList args.toList ds p := hA0
  rw [Try.params5] at hA hval
  obtain ⟨v0, vs0, d0, ds0, p0, q0, hargs, rfl, rfl, h0, r0⟩ := trodAll_cons hA
  obtain ⟨rfl, rfl, rfl⟩ := trodAll_nil r0
  obtain rfl : args = #[v0] := by cases args; simp_all
  obtain ⟨rfl, rfl⟩ := trodVars_none hV
  obtain ⟨s0, len0, cap0, rfl⟩ := okWide_slice Try.underlying22 (hval 0 22 v0 rfl rfl)
  have k0 := h0
  have lt0 : ∀ x ∈ p0, x.block < W.heap.size := by obtain ⟨m, hm⟩ := k0; exact DataW.trod_lt m _ _ _ hm
  obtain ⟨b0, z0, g0⟩ : ∃ bs zs, RdM W (.slice s0 len0 cap0) bs zs := by
    obtain ⟨fuel, hf⟩ := h0
    rcases Go.Deep.open_int_rows Try.underlying22 Try.underlying34 Try.underlying3 (by kernel_rfl) (by kernel_rfl) hf with ⟨hcs, _⟩ | ⟨x, l, c, A0, L0, C0, Z0, hcs, _, hl, hm, _, hr⟩
    · simp [Value.cells] at hcs
      obtain ⟨rfl, rfl, rfl⟩ := hcs
      exact ⟨[], [], rdM_nil W⟩
    · simp [Value.cells] at hcs
      obtain ⟨rfl, rfl, rfl⟩ := hcs
      exact ⟨_, _, rdM_of_open hl hm hr⟩
  clear hA0 hval0
  refine (law_c _ b0 z0 W g0).mono fun e W' ⟨he, bel⟩ => ?_
  subst he
  exact ⟨_, rfl, _, _, _, [], _, [], hW', trodAll_mk1 (shut_bool Try.underlying4 _), (trodAll_cons_mk (Below.trod laidOut (by kernel_rfl) (of_decide_eq_true (by kernel_rfl)) k0 bel lt0) trodAll_mk0), rfl, bel.frame _, fun h => by cases h⟩

theorem over : Rows.fnExactTurnMatrixRow.holds Try.pinned (OpenSpec.ofChange Rows.fnExactTurnMatrixSpec) :=
  OpenClaim.holds_of_wide 5 Try.f5 rfl rfl rfl rfl rfl rfl rfl ⟨rfl, rfl, rfl, rfl, rfl⟩ rfl rfl rfl rfl rfl (by kernel_rfl) Try.func5 (by kernel_rfl)
    (of_decide_eq_true (by kernel_rfl)) (by unfold Func.isWrapper; first | (rw [if_pos (by decide +kernel)]; kernel_rfl) | (rw [if_neg (by decide +kernel)]; exact ⟨rfl, rfl⟩))
    (fun os started H enc _ => lifted os started H enc)

theorem proved : Rows.FnExactTurnMatrixSaid :=
  over
end Go.Proofs.Ytkfkmncecihflaa.fnExactTurnMatrix
