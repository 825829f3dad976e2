/-
  The statement Rows.FnExactMonomialsOfSaid: the law answers true at every input, and its arguments read afterwards as before. No further condition.
-/
import Derived.Test.YtkfkmncecihflaaMono2
import Derived.Test.YtkfkmncecihflaaMLaws2
import Derived.ProofKit
import Derived.OpenShut
import Derived.ChangeOld
namespace Go.Proofs.Ytkfkmncecihflaa.fnExactMonomialsOf
open Go.ChangeShapes Go.WideShapes Go.ChangeAt Go.RowKit
set_option linter.unusedVariables false

set_option maxHeartbeats 40000000 in
set_option maxRecDepth 100000 in
theorem law_c (a0 : Int) (a1 : Int) (w : World) : Calls Try.prog 3 #[.int .i64 a0, .int .i64 a1] w fun e w' => e = .returned (.bool true) ∧ Below w.heap.size w w' := by
  have hR : cnt (monB a0 a1) ≤ 1000000 := monB_cnt a0 a1
  obtain ⟨R, hRR⟩ : ∃ R, R = monB a0 a1 := ⟨_, rfl⟩
  have HR := hid hRR; rw [← hRR] at hR; clear hRR
  go_enter Try.func3, Try.ntmps3
  have hS0 := hid (St.start w)
  go_wp2_with fail
  refine (sMonomialsOf_c a0 a1 _).mono ?_
  rw [← HR.out]
  rintro e w1 ⟨v0, v0r, rfl, hlv0, hN⟩
  have HLv0 := hid hlv0
  clear hlv0
  have hS1 := hid (hS0.out.callM hN)
  clear hN hS0
  go_wp2_with fail
  refine (MonomialsOf_c a0 a1 _).mono ?_
  rw [← HR.out]
  rintro e w2 ⟨r0, r0r, rfl, hlr0, hN⟩
  have HLr0 := hid hlr0
  clear hlr0
  have hS2 := hid (hS1.out.callM hN)
  clear hN hS1
  go_wp2_with fail
  refine (eqIntSS_c _ _ _ _ (R) (R) _ ((hS2.out).rdM HLr0.out) (((hS2.out).dropRows).rdM HLv0.out)).mono ?_
  rintro e _ ⟨rfl, n3, hN⟩
  subst hN
  have hS3 := hid (hS2.out.drewN n3)
  clear hS2
  go_wp2_with fail
  refine (markIntSS_c _ _ _ _ 1 _ _ _ hS3.out HLr0.out (by omega) (by omega)).mono ?_
  rintro e w4 ⟨rfl, hN⟩
  have hS4 := hid hN
  clear hN hS3
  replace HLr0 : Hid (r0r.length = (markTo 1 R (R).length).length) := by show _ = _; rw [markTo_len]; exact HLr0.out
  go_wp2_with fail
  refine (heldIntSS_c _ _ (R) 1 _ ((hS4.out).rdM HLr0.out) (by omega) (by omega)).mono ?_
  rintro e _ ⟨rfl, n5, hN⟩
  subst hN
  have hS5 := hid (hS4.out.drewN n5)
  clear hS4
  go_wp2_with fail
  refine (MonomialsOf_c a0 a1 _).mono ?_
  rw [← HR.out]
  rintro e w6 ⟨h0, h0r, rfl, hlh0, hN⟩
  have HLh0 := hid hlh0
  clear hlh0
  have hS6 := hid (hS5.out.callM hN)
  clear hN hS5
  go_wp2_with fail
  refine (eqIntSS_c _ _ _ _ (R) (R) _ ((hS6.out).rdM HLh0.out) ((((hS6.out).dropRows).dropRows).rdM HLv0.out)).mono ?_
  rintro e _ ⟨rfl, n7, hN⟩
  subst hN
  have hS7 := hid (hS6.out.drewN n7)
  clear hS6
  go_wp2_with fail
  refine (heldIntSS_c _ _ (R) 1 _ (((hS7.out).dropRows).rdM HLr0.out) (by omega) (by omega)).mono ?_
  rintro e _ ⟨rfl, n8, hN⟩
  subst hN
  have hS8 := hid (hS7.out.drewN n8)
  clear hS7
  go_wp2_with fail
  go_ret
  first | exact ⟨rfl, hS8.out.bel⟩ | (rw [← World.drewN_drewN]; exact ⟨rfl, hS8.out.bel⟩)

theorem own : ownKnob Try.prog.godebug = none := by kernel_rfl
theorem laidOut : laidOutB Try.prog = true := by kernel_rfl

set_option maxRecDepth 100000 in
theorem lifted (os : Os) (started : os.Started) (H : Type) (enc : TypeId × Value → H) :
    ReturnsInHanded {} Try.checked os 3 .any (Rows.fnExactMonomialsOfSpec.pre6 enc Try.prog Try.f3 Rows.fnExactMonomialsOfRow.domain false) (Rows.fnExactMonomialsOfSpec.post enc Try.prog Try.f3 false true false false) := by
  refine returnsInHanded_of_change (C := Try.checked) own started (by kernel_rfl) Try.func3
    (ChangeSpec.witness6 (enc := enc) (C := Try.checked) false ⟨#[], #[.int .i64 0, .int .i64 0], []⟩ 8 (by kernel_rfl) (by kernel_rfl) (by kernel_rfl) (by kernel_rfl)) ?_
  intro W base args ds gs before hval0 hW hcnd _
  have hval : ∀ (j : Nat) t v, Try.f3.params[j]? = some t → args[j]? = some v → Value.okWide Try.prog W .any base t v := hval0
  have hW' := hW
  obtain ⟨p, q, hA0, hV, rfl, hfz, hnd⟩ := hW
  have hA : DataW.TrodAll enc Try.prog W 0 (fun _ => true) true Try.f3.params.toList args.toList ds p := hA0
  rw [Try.params3] at hA hval
  obtain ⟨v0, vs0, d0, ds0, p0, q0, hargs, rfl, rfl, h0, r0⟩ := trodAll_cons hA
  obtain ⟨v1, vs1, d1, ds1, p1, q1, rfl, rfl, rfl, h1, r1⟩ := trodAll_cons r0
  obtain ⟨rfl, rfl, rfl⟩ := trodAll_nil r1
  obtain rfl : args = #[v0, v1] := by cases args; simp_all
  obtain ⟨rfl, rfl⟩ := trodVars_none hV
  obtain ⟨a0, rfl, rfl, rfl, w0⟩ := open_int Try.underlying3 (hval 0 3 v0 rfl rfl) h0
  obtain ⟨a1, rfl, rfl, rfl, w1⟩ := open_int Try.underlying3 (hval 1 3 v1 rfl rfl) h1
  clear hA0 hval0
  refine (law_c a0 a1 W).mono fun e W' ⟨he, bel⟩ => ?_
  subst he
  exact ⟨_, rfl, _, _, _, [], _, [], hW', trodAll_mk1 (shut_bool Try.underlying4 _), (trodAll_cons_mk (shut_int Try.underlying3 w0) (trodAll_cons_mk (shut_int Try.underlying3 w1) trodAll_mk0)), rfl, bel.frame _, fun h => by cases h⟩

theorem over : Rows.fnExactMonomialsOfRow.holds Try.pinned (OpenSpec.ofChange Rows.fnExactMonomialsOfSpec) :=
  OpenClaim.holds_of_wide 3 Try.f3 rfl rfl rfl rfl rfl rfl rfl ⟨rfl, rfl, rfl, rfl, rfl⟩ rfl rfl rfl rfl rfl (by kernel_rfl) Try.func3 (by kernel_rfl)
    (of_decide_eq_true (by kernel_rfl)) (by unfold Func.isWrapper; first | (rw [if_pos (by decide +kernel)]; kernel_rfl) | (rw [if_neg (by decide +kernel)]; exact ⟨rfl, rfl⟩))
    (fun os started H enc _ => lifted os started H enc)

theorem proved : Rows.FnExactMonomialsOfSaid :=
  over
end Go.Proofs.Ytkfkmncecihflaa.fnExactMonomialsOf
