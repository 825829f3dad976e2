/-
  The statement Rows.FnExactAreMonomialCountsSaid: the law answers true at every input, and its arguments read afterwards as before. No further condition.
-/
import Derived.Test.YtkjkcnhohcblmaaPoss
import Derived.Test.YtkjkcnhohcblmaaLaws
import Derived.ProofKit
import Derived.OpenShut
import Derived.ChangeOld
namespace Go.Proofs.Ytkjkcnhohcblmaa.fnExactAreMonomialCounts
open Go.ChangeShapes Go.WideShapes Go.ChangeAt Go.RowKit
set_option linter.unusedVariables false

set_option maxHeartbeats 2000000 in
set_option maxRecDepth 100000 in
theorem law_c (u0 : Value) (x0 : List Int) (w : World) (g0 : Rd w u0 (ints x0)) : Calls Try.prog 10 #[u0] w fun e w' => e = .returned (.bool true) ∧ Below w.heap.size w w' := by
  have la := g0.iln tI
  by_cases hbig : 1048576 < x0.length
  · have HB := hid hbig
    go_enter Try.func10, Try.ntmps10
    go_wp2_with fail
    go_ret
    exact ⟨rfl, Below.refl _ _⟩
  have hx0 : x0.length ≤ 1048576 := by omega
  clear hbig
  go_enter Try.func10, Try.ntmps10
  have hS0 := St.start w
  go_wp2_with fail
  refine (toIntS_c _ x0 _ (hS0.old g0) (by omega)).mono ?_
  rintro e w1 ⟨t0, rfl, hN⟩
  have hS1 : St w w1 [⟨t0, 3, ints x0⟩] := hS0.call1 hN
  clear hN hS0
  go_wp2_with fail
  refine (sAreMonomialCounts_c _ x0 _ (hS1.hd)).mono ?_
  rintro e w2 ⟨rfl, hN⟩
  have hS2 : St w w2 [⟨t0, 3, ints x0⟩] := hS1.quiet hN
  clear hN hS1
  go_wp2_with fail
  refine (toIntS_c _ x0 _ (hS2.old g0) (by omega)).mono ?_
  rintro e w3 ⟨y0, rfl, hN⟩
  have hS3 : St w w3 [⟨y0, 3, ints x0⟩, ⟨t0, 3, ints x0⟩] := hS2.call1 hN
  clear hN hS2
  go_wp2_with fail
  refine (AreMonomialCounts_c _ x0 _ (hS3.hd)).mono ?_
  rintro e w4 ⟨rfl, hN⟩
  have hS4 : St w w4 [⟨y0, 3, ints x0⟩, ⟨t0, 3, ints x0⟩] := hS3.quiet hN
  clear hN hS3
  go_wp2_with fail
  refine (toIntS_c _ x0 _ (hS4.old g0) (by omega)).mono ?_
  rintro e w5 ⟨z0, rfl, hN⟩
  have hS5 : St w w5 [⟨z0, 3, ints x0⟩, ⟨y0, 3, ints x0⟩, ⟨t0, 3, ints x0⟩] := hS4.call1 hN
  clear hN hS4
  go_wp2_with fail
  refine (eqIntS_c _ _ (x0) (x0) _ (hS5.hd2) (hS5.hd)).mono ?_
  rintro e _ ⟨rfl, n6, rfl⟩
  have hS6 : St w _ [⟨z0, 3, ints x0⟩, ⟨y0, 3, ints x0⟩, ⟨t0, 3, ints x0⟩] := hS5.drewN n6
  clear hS5
  go_wp2_with fail
  go_ret
  first | exact ⟨rfl, hS6.bel⟩ | (rw [← World.drewN_drewN]; exact ⟨rfl, hS6.bel⟩)

theorem own : ownKnob Try.prog.godebug = none := by kernel_rfl
theorem laidOut : laidOutB Try.prog = true := by kernel_rfl

set_option maxRecDepth 100000 in
theorem lifted (os : Os) (started : os.Started) (H : Type) (enc : TypeId × Value → H) :
    ReturnsInHanded {} Try.checked os 10 .any (Rows.fnExactAreMonomialCountsSpec.pre6 enc Try.prog Try.f10 Rows.fnExactAreMonomialCountsRow.domain false) (Rows.fnExactAreMonomialCountsSpec.post enc Try.prog Try.f10 false true false false) := by
  refine returnsInHanded_of_change (C := Try.checked) own started (by kernel_rfl) Try.func10
    (ChangeSpec.witness6 (enc := enc) (C := Try.checked) false ⟨#[], #[.slice none 0 0], []⟩ 8 (by kernel_rfl) (by kernel_rfl) (by kernel_rfl) (by kernel_rfl)) ?_
  intro W base args ds gs before hval0 hW hcnd _
  have hval : ∀ (j : Nat) t v, Try.f10.params[j]? = some t → args[j]? = some v → Value.okWide Try.prog W .any base t v := hval0
  have hW' := hW
  obtain ⟨p, q, hA0, hV, rfl, hfz, hnd⟩ := hW
  have hA : DataW.TrodAll enc Try.prog W 0 (fun _ => true) true Try.f10.params.toList args.toList ds p := hA0
  rw [Try.params10] at hA hval
  obtain ⟨v0, vs0, d0, ds0, p0, q0, hargs, rfl, rfl, h0, r0⟩ := trodAll_cons hA
  obtain ⟨rfl, rfl, rfl⟩ := trodAll_nil r0
  obtain rfl : args = #[v0] := by cases args; simp_all
  obtain ⟨rfl, rfl⟩ := trodVars_none hV
  obtain ⟨s0, len0, cap0, rfl⟩ := okWide_slice Try.underlying24 (hval 0 24 v0 rfl rfl)
  have k0 := h0
  have lt0 : ∀ x ∈ p0, x.block < W.heap.size := by obtain ⟨m, hm⟩ := k0; exact DataW.trod_lt m _ _ _ hm
  obtain ⟨z0, g0⟩ : ∃ zs, Rd W (.slice s0 len0 cap0) (ints zs) := by
    obtain ⟨fuel, hf⟩ := h0
    rcases open_ints Try.underlying24 Try.underlying3 (by kernel_rfl) hf with ⟨hcs, _⟩ | ⟨x, l, c, zs, hcs, _, hl, hm, hz, _, hcell, _⟩
    · simp [Value.cells] at hcs
      obtain ⟨rfl, rfl, rfl⟩ := hcs
      exact ⟨[], .inl ⟨rfl, rfl⟩⟩
    · simp [Value.cells] at hcs
      obtain ⟨rfl, rfl, rfl⟩ := hcs
      exact ⟨_, rd_of_open hl hm (by simp at hz; omega) hcell⟩
  clear hA0 hval0
  refine (law_c _ z0 W g0).mono fun e W' ⟨he, bel⟩ => ?_
  subst he
  exact ⟨_, rfl, _, _, _, [], _, [], hW', trodAll_mk1 (shut_bool Try.underlying4 _), (trodAll_cons_mk (Below.trod laidOut (by kernel_rfl) (of_decide_eq_true (by kernel_rfl)) k0 bel lt0) trodAll_mk0), rfl, bel.frame _, fun h => by cases h⟩

theorem over : Rows.fnExactAreMonomialCountsRow.holds Try.pinned (OpenSpec.ofChange Rows.fnExactAreMonomialCountsSpec) :=
  OpenClaim.holds_of_wide 10 Try.f10 rfl rfl rfl rfl rfl rfl rfl ⟨rfl, rfl, rfl, rfl, rfl⟩ rfl rfl rfl rfl rfl (by kernel_rfl) Try.func10 (by kernel_rfl)
    (of_decide_eq_true (by kernel_rfl)) (by unfold Func.isWrapper; first | (rw [if_pos (by decide +kernel)]; kernel_rfl) | (rw [if_neg (by decide +kernel)]; exact ⟨rfl, rfl⟩))
    (fun os started H enc _ => lifted os started H enc)

theorem proved : Rows.FnExactAreMonomialCountsSaid :=
  over
end Go.Proofs.Ytkjkcnhohcblmaa.fnExactAreMonomialCounts
