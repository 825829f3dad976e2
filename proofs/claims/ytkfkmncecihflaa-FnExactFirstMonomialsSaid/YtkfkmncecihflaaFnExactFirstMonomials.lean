/-
  The statement Rows.FnExactFirstMonomialsSaid: the law answers true at every input, and its arguments read afterwards as before. No further condition.
-/
import Derived.Test.YtkfkmncecihflaaFirstM
import Derived.Test.YtkfkmncecihflaaMLaws2
import Derived.ProofKit
import Derived.OpenShut
import Derived.ChangeOld
namespace Go.Proofs.Ytkfkmncecihflaa.fnExactFirstMonomials
open Go.ChangeShapes Go.WideShapes Go.ChangeAt Go.RowKit
set_option linter.unusedVariables false

set_option maxHeartbeats 8000000 in
set_option maxRecDepth 100000 in
theorem law_c (a0 : Int) (a1 : Int) (a2 : Int) (w : World) : Calls Try.prog 4 #[.int .i64 a0, .int .i64 a1, .int .i64 a2] w fun e w' => e = .returned (.bool true) ∧ Below w.heap.size w w' := by
  have hR : cnt (fmB a0 a1 a2) ≤ 1000000 := fmB_cnt a0 a1 a2
  obtain ⟨R, hRR⟩ : ∃ R, R = fmB a0 a1 a2 := ⟨_, rfl⟩
  have HR := hid hRR; rw [← hRR] at hR; clear hRR
  go_enter Try.func4, Try.ntmps4
  have hS0 := hid (St.start w)
  go_wp2_with fail
  refine (sFirstMonomials_c a0 a1 a2 _).mono ?_
  rw [← HR.out]
  rintro e w1 ⟨v0, v0r, rfl, hlv0, hN⟩
  have HLv0 := hid hlv0
  clear hlv0
  have hS1 := hid (hS0.out.callM hN)
  clear hN hS0
  go_wp2_with fail
  refine (FirstMonomials_c a0 a1 a2 _).mono ?_
  rw [← HR.out]
  rintro e w2 ⟨r0, rf, r0r, rs, rN, rfl, hlr0, hcr, hN⟩
  have HLr0 := hid hlr0
  have HCr := hid hcr
  clear hlr0 hcr
  have hS2 : Hid (St w w2 (⟨rf, 34, r0r ++ rs⟩ :: rowsOn r0r R (rowsOn rs rN (⟨v0, 34, v0r⟩ :: rowsOn v0r R [])))) := by
    have := hS1.out.call hN
    simp only [rowsOn, List.append_nil, List.cons_append, List.append_assoc] at this ⊢
    exact this
  clear hN hS1
  go_wp2_with fail
  refine (eqIntSS_c _ _ _ _ (R) (R) _ (hS2.out.rdCut HCr.out HLr0.out) (hS2.out.dropCut.rdM HLv0.out)).mono ?_
  rintro e _ ⟨rfl, n3, hN⟩
  subst hN
  have hS3 := hid (hS2.out.drewN n3)
  clear hS2
  go_wp2_with fail
  refine (markIntSS_cut _ _ _ _ _ _ 1 _ _ _ hS3.out HCr.out HLr0.out (by omega) (by omega)).mono ?_
  rintro e w4 ⟨rfl, hN⟩
  have hS4 := hid hN
  clear hN hS3
  replace HLr0 : Hid (r0r.length = (markTo 1 R (R).length).length) := by show _ = _; rw [markTo_len]; exact HLr0.out
  go_wp2_with fail
  refine (heldIntSS_c _ _ (R) 1 _ (hS4.out.rdCut HCr.out HLr0.out) (by omega) (by omega)).mono ?_
  rintro e _ ⟨rfl, n5, hN⟩
  subst hN
  have hS5 := hid (hS4.out.drewN n5)
  clear hS4
  go_wp2_with fail
  refine (FirstMonomials_c a0 a1 a2 _).mono ?_
  rw [← HR.out]
  rintro e w6 ⟨h0, hf, h0r, hs, hNN, rfl, hlh0, hch, hN⟩
  have HLh0 := hid hlh0
  have HCh := hid hch
  clear hlh0 hch
  have hS6 : Hid (St w w6 (⟨hf, 34, h0r ++ hs⟩ :: rowsOn h0r R (rowsOn hs hNN (⟨rf, 34, r0r ++ rs⟩ :: rowsOn r0r (markTo 1 R (R).length) (rowsOn rs rN (⟨v0, 34, v0r⟩ :: rowsOn v0r R [])))))) := by
    have := hS5.out.call hN
    simp only [rowsOn, List.append_nil, List.cons_append, List.append_assoc] at this ⊢
    exact this
  clear hN hS5
  go_wp2_with fail
  refine (eqIntSS_c _ _ _ _ (R) (R) _ (hS6.out.rdCut HCh.out HLh0.out) (hS6.out.dropCut.dropCut.rdM HLv0.out)).mono ?_
  rintro e _ ⟨rfl, n7, hN⟩
  subst hN
  have hS7 := hid (hS6.out.drewN n7)
  clear hS6
  go_wp2_with fail
  refine (heldIntSS_c _ _ (R) 1 _ (hS7.out.dropCut.rdCut HCr.out HLr0.out) (by omega) (by omega)).mono ?_
  rintro e _ ⟨rfl, n8, hN⟩
  subst hN
  have hS8 := hid (hS7.out.drewN n8)
  clear hS7
  go_wp2_with fail
  go_ret
  first | exact ⟨rfl, hS8.out.bel⟩ | (rw [← World.drewN_drewN]; exact ⟨rfl, hS8.out.bel⟩)

theorem own : ownKnob Try.prog.godebug = none := by kernel_rfl
theorem laidOut : laidOutB Try.prog = true := by kernel_rfl

set_option maxRecDepth 100000 in
theorem lifted (os : Os) (started : os.Started) (H : Type) (enc : TypeId × Value → H) :
    ReturnsInHanded {} Try.checked os 4 .any (Rows.fnExactFirstMonomialsSpec.pre6 enc Try.prog Try.f4 Rows.fnExactFirstMonomialsRow.domain false) (Rows.fnExactFirstMonomialsSpec.post enc Try.prog Try.f4 false true false false) := by
  refine returnsInHanded_of_change (C := Try.checked) own started (by kernel_rfl) Try.func4
    (ChangeSpec.witness6 (enc := enc) (C := Try.checked) false ⟨#[], #[.int .i64 0, .int .i64 0, .int .i64 0], []⟩ 8 (by kernel_rfl) (by kernel_rfl) (by kernel_rfl) (by kernel_rfl)) ?_
  intro W base args ds gs before hval0 hW hcnd _
  have hval : ∀ (j : Nat) t v, Try.f4.params[j]? = some t → args[j]? = some v → Value.okWide Try.prog W .any base t v := hval0
  have hW' := hW
  obtain ⟨p, q, hA0, hV, rfl, hfz, hnd⟩ := hW
  have hA : DataW.TrodAll enc Try.prog W 0 (fun _ => true) true Try.f4.params.toList args.toList ds p := hA0
  rw [Try.params4] at hA hval
  obtain ⟨v0, vs0, d0, ds0, p0, q0, hargs, rfl, rfl, h0, r0⟩ := trodAll_cons hA
  obtain ⟨v1, vs1, d1, ds1, p1, q1, rfl, rfl, rfl, h1, r1⟩ := trodAll_cons r0
  obtain ⟨v2, vs2, d2, ds2, p2, q2, rfl, rfl, rfl, h2, r2⟩ := trodAll_cons r1
  obtain ⟨rfl, rfl, rfl⟩ := trodAll_nil r2
  obtain rfl : args = #[v0, v1, v2] := by cases args; simp_all
  obtain ⟨rfl, rfl⟩ := trodVars_none hV
  obtain ⟨a0, rfl, rfl, rfl, w0⟩ := open_int Try.underlying3 (hval 0 3 v0 rfl rfl) h0
  obtain ⟨a1, rfl, rfl, rfl, w1⟩ := open_int Try.underlying3 (hval 1 3 v1 rfl rfl) h1
  obtain ⟨a2, rfl, rfl, rfl, w2⟩ := open_int Try.underlying3 (hval 2 3 v2 rfl rfl) h2
  clear hA0 hval0
  refine (law_c a0 a1 a2 W).mono fun e W' ⟨he, bel⟩ => ?_
  subst he
  exact ⟨_, rfl, _, _, _, [], _, [], hW', trodAll_mk1 (shut_bool Try.underlying4 _), (trodAll_cons_mk (shut_int Try.underlying3 w0) (trodAll_cons_mk (shut_int Try.underlying3 w1) (trodAll_cons_mk (shut_int Try.underlying3 w2) trodAll_mk0))), rfl, bel.frame _, fun h => by cases h⟩

theorem over : Rows.fnExactFirstMonomialsRow.holds Try.pinned (OpenSpec.ofChange Rows.fnExactFirstMonomialsSpec) :=
  OpenClaim.holds_of_wide 4 Try.f4 rfl rfl rfl rfl rfl rfl rfl ⟨rfl, rfl, rfl, rfl, rfl⟩ rfl rfl rfl rfl rfl (by kernel_rfl) Try.func4 (by kernel_rfl)
    (of_decide_eq_true (by kernel_rfl)) (by unfold Func.isWrapper; first | (rw [if_pos (by decide +kernel)]; kernel_rfl) | (rw [if_neg (by decide +kernel)]; exact ⟨rfl, rfl⟩))
    (fun os started H enc _ => lifted os started H enc)

theorem proved : Rows.FnExactFirstMonomialsSaid :=
  over
end Go.Proofs.Ytkfkmncecihflaa.fnExactFirstMonomials
