/-
  The statement Rows.FnExactFirstSetsSaid: the law answers true at every input, and its arguments read afterwards as before. No further condition.
-/
import Derived.Test.YtkjkcnhohcblmaaFirst
import Derived.Test.YtkjkcnhohcblmaaLaws
import Derived.ProofKit
import Derived.OpenShut
import Derived.ChangeOld
namespace Go.Proofs.Ytkjkcnhohcblmaa.fnExactFirstSets
open Go.ChangeShapes Go.WideShapes Go.ChangeAt Go.RowKit
set_option linter.unusedVariables false

set_option maxHeartbeats 2000000 in
set_option maxRecDepth 100000 in
theorem law_c (a0 : Int) (a1 : Int) (w : World) : Calls Try.prog 12 #[.int .i64 a0, .int .i64 a1] w fun e w' => e = .returned (.bool true) ∧ Below w.heap.size w w' := by
  have hR : (fsB a0 a1).length ≤ 1000000 := fsB_len a0 a1
  obtain ⟨R, hRR⟩ : ∃ R, R = fsB a0 a1 := ⟨_, rfl⟩
  have HR := hid hRR; rw [← hRR] at hR; clear hRR
  go_enter Try.func12, Try.ntmps12
  have hS0 := St.start w
  go_wp2_with fail
  refine (sFirstSets_c a0 a1 _).mono ?_
  rw [← HR.out]
  rintro e w1 ⟨v0, rfl, hN⟩
  have hS1 : St w w1 [⟨v0, 3, ints R⟩] := hS0.call1 hN
  clear hN hS0
  go_wp2_with fail
  refine (FirstSets_c a0 a1 _).mono ?_
  rw [← HR.out]
  rintro e w2 ⟨r0, rfl, hN⟩
  have hS2 : St w w2 [⟨r0, 3, ints R⟩, ⟨v0, 3, ints R⟩] := hS1.call1 hN
  clear hN hS1
  go_wp2_with fail
  refine (eqIntS_c _ _ (R) (R) _ (hS2.hd) (hS2.hd2)).mono ?_
  rintro e _ ⟨rfl, n3, rfl⟩
  have hS3 : St w _ [⟨r0, 3, ints R⟩, ⟨v0, 3, ints R⟩] := hS2.drewN n3
  clear hS2
  go_wp2_with fail
  refine (markIntS_c _ _ 1 _ _ _ hS3.own (ints_cells _) (by omega) (by simp; omega)).mono ?_
  rintro e w4 ⟨rfl, hO, hB⟩
  rw [length_ints] at hO ⊢
  have hS4 : St w w4 [⟨r0, 3, ints (marks 1 (R).length)⟩, ⟨v0, 3, ints R⟩] := hS3.mut hO hB
  clear hO hB hS3
  go_wp2_with fail
  refine (heldIntS_c _ 1 (R).length _ (hS4.hd) (by omega) (by omega)).mono ?_
  rintro e _ ⟨rfl, n5, rfl⟩
  have hS5 : St w _ [⟨r0, 3, ints (marks 1 (R).length)⟩, ⟨v0, 3, ints R⟩] := hS4.drewN n5
  clear hS4
  go_wp2_with fail
  refine (FirstSets_c a0 a1 _).mono ?_
  rw [← HR.out]
  rintro e w6 ⟨h0, rfl, hN⟩
  have hS6 : St w w6 [⟨h0, 3, ints R⟩, ⟨r0, 3, ints (marks 1 (R).length)⟩, ⟨v0, 3, ints R⟩] := hS5.call1 hN
  clear hN hS5
  go_wp2_with fail
  refine (eqIntS_c _ _ (R) (R) _ (hS6.hd) (hS6.hd3)).mono ?_
  rintro e _ ⟨rfl, n7, rfl⟩
  have hS7 : St w _ [⟨h0, 3, ints R⟩, ⟨r0, 3, ints (marks 1 (R).length)⟩, ⟨v0, 3, ints R⟩] := hS6.drewN n7
  clear hS6
  go_wp2_with fail
  refine (heldIntS_c _ 1 (R).length _ (hS7.hd2) (by omega) (by omega)).mono ?_
  rintro e _ ⟨rfl, n8, rfl⟩
  have hS8 : St w _ [⟨h0, 3, ints R⟩, ⟨r0, 3, ints (marks 1 (R).length)⟩, ⟨v0, 3, ints R⟩] := hS7.drewN n8
  clear hS7
  go_wp2_with fail
  go_ret
  first | exact ⟨rfl, hS8.bel⟩ | (rw [← World.drewN_drewN]; exact ⟨rfl, hS8.bel⟩)

theorem own : ownKnob Try.prog.godebug = none := by kernel_rfl
theorem laidOut : laidOutB Try.prog = true := by kernel_rfl

set_option maxRecDepth 100000 in
theorem lifted (os : Os) (started : os.Started) (H : Type) (enc : TypeId × Value → H) :
    ReturnsInHanded {} Try.checked os 12 .any (Rows.fnExactFirstSetsSpec.pre6 enc Try.prog Try.f12 Rows.fnExactFirstSetsRow.domain false) (Rows.fnExactFirstSetsSpec.post enc Try.prog Try.f12 false true false false) := by
  refine returnsInHanded_of_change (C := Try.checked) own started (by kernel_rfl) Try.func12
    (ChangeSpec.witness6 (enc := enc) (C := Try.checked) false ⟨#[], #[.int .i64 0, .int .i64 0], []⟩ 8 (by kernel_rfl) (by kernel_rfl) (by kernel_rfl) (by kernel_rfl)) ?_
  intro W base args ds gs before hval0 hW hcnd _
  have hval : ∀ (j : Nat) t v, Try.f12.params[j]? = some t → args[j]? = some v → Value.okWide Try.prog W .any base t v := hval0
  have hW' := hW
  obtain ⟨p, q, hA0, hV, rfl, hfz, hnd⟩ := hW
  have hA : DataW.TrodAll enc Try.prog W 0 (fun _ => true) true Try.f12.params.toList args.toList ds p := hA0
  rw [Try.params12] at hA hval
  obtain ⟨v0, vs0, d0, ds0, p0, q0, hargs, rfl, rfl, h0, r0⟩ := trodAll_cons hA
  obtain ⟨v1, vs1, d1, ds1, p1, q1, rfl, rfl, rfl, h1, r1⟩ := trodAll_cons r0
  obtain ⟨rfl, rfl, rfl⟩ := trodAll_nil r1
  obtain rfl : args = #[v0, v1] := by cases args; simp_all
  obtain ⟨rfl, rfl⟩ := trodVars_none hV
  obtain ⟨a0, rfl, rfl, rfl, w0⟩ := open_int Try.underlying3 (hval 0 3 v0 rfl rfl) h0
  obtain ⟨a1, rfl, rfl, rfl, w1⟩ := open_int Try.underlying3 (hval 1 3 v1 rfl rfl) h1
  clear hA0 hval0
  refine (law_c a0 a1 W).mono fun e W' ⟨he, bel⟩ => ?_
  subst he
  exact ⟨_, rfl, _, _, _, [], _, [], hW', trodAll_mk1 (shut_bool Try.underlying4 _), (trodAll_cons_mk (shut_int Try.underlying3 w0) (trodAll_cons_mk (shut_int Try.underlying3 w1) trodAll_mk0)), rfl, bel.frame _, fun h => by cases h⟩

theorem over : Rows.fnExactFirstSetsRow.holds Try.pinned (OpenSpec.ofChange Rows.fnExactFirstSetsSpec) :=
  OpenClaim.holds_of_wide 12 Try.f12 rfl rfl rfl rfl rfl rfl rfl ⟨rfl, rfl, rfl, rfl, rfl⟩ rfl rfl rfl rfl rfl (by kernel_rfl) Try.func12 (by kernel_rfl)
    (of_decide_eq_true (by kernel_rfl)) (by unfold Func.isWrapper; first | (rw [if_pos (by decide +kernel)]; kernel_rfl) | (rw [if_neg (by decide +kernel)]; exact ⟨rfl, rfl⟩))
    (fun os started H enc _ => lifted os started H enc)

theorem proved : Rows.FnExactFirstSetsSaid :=
  over
end Go.Proofs.Ytkjkcnhohcblmaa.fnExactFirstSets
