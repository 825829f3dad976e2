/-
  The statement Rows.FnExactRankModSaid: the law answers true at every input, and its arguments read afterwards as before. No further condition.
-/
import Derived.Test.YtkfkmncecihflaaRankMod
import Derived.Test.YtkfkmncecihflaaMLaws2
import Derived.ProofKit
import Derived.OpenShut
import Derived.ChangeOld
namespace Go.Proofs.Ytkfkmncecihflaa.fnExactRankMod
open Go.ChangeShapes Go.WideShapes Go.ChangeAt Go.RowKit
set_option linter.unusedVariables false

set_option maxHeartbeats 8000000 in
set_option maxRecDepth 100000 in
theorem law_c (u0 : Value) (b0 : List Value) (x0 : List (List Int)) (a1 : Int) (w : World) (g0 : RdM w u0 b0 x0) : Calls Try.prog 7 #[u0, .int .i64 a1] w fun e w' => e = .returned (.bool true) ∧ Below w.heap.size w w' := by
  have la0 := g0.ln
  by_cases hbig : (1048576 : Int) < (szN2 x0 : Int)
  · skip
    go_enter Try.func7, Try.ntmps7
    have hS0 := St.start w
    go_wp2_with fail
    refine (szIntSS_big _ b0 x0 (1048576) _ (hS0.oldM g0) (by omega) (by omega) (by omega)).mono ?_
    rintro e w1 ⟨rfl, hN⟩
    have hS1 := hS0.quiet hN
    clear hN hS0
    go_wp2_with fail
    go_ret
    first | exact ⟨rfl, hS1.bel⟩ | (rw [← World.drewN_drewN]; exact ⟨rfl, hS1.bel⟩)
  have hx0 : (szN2 x0 : Int) ≤ 1048576 := by omega
  have hy0 : (szN2 x0 : Int) ≤ 1048576 := by omega
  clear hbig
  have hz0 := szN2_cnt x0
  go_enter Try.func7, Try.ntmps7
  have hS0 := St.start w
  go_wp2_with fail
  refine (szIntSS_ok _ b0 x0 (1048576) _ (hS0.oldM g0) (by omega) (by omega)).mono ?_
  rintro e w1 ⟨rfl, hN⟩
  have hS1 := hS0.quiet hN
  clear hN hS0
  go_wp2_with fail
  refine (toIntSS_c _ b0 x0 _ (hS1.oldM g0) (by omega)).mono ?_
  rintro e w2 ⟨t0, t0r, rfl, hlt0, hN⟩
  have HLt0 := hid hlt0
  clear hlt0
  have hS2 := hS1.callM hN
  clear hN hS1
  go_wp2_with fail
  refine (sRankMod_c _ _ x0 a1 _ ((hS2).rdM HLt0.out)).mono ?_
  rintro e w3 ⟨rfl, hN⟩
  have hS3 := hS2.quiet hN
  clear hN hS2
  go_wp2_with fail
  refine (toIntSS_c _ b0 x0 _ (hS3.oldM g0) (by omega)).mono ?_
  rintro e w4 ⟨y0, y0r, rfl, hly0, hN⟩
  have HLy0 := hid hly0
  clear hly0
  have hS4 := hS3.callM hN
  clear hN hS3
  go_wp2_with fail
  refine (RankMod_c _ _ x0 a1 _ ((hS4).rdM HLy0.out)).mono ?_
  rintro e w5 ⟨rfl, hN⟩
  have hS5 := hS4.quiet hN
  clear hN hS4
  go_wp2_with fail
  refine (toIntSS_c _ b0 x0 _ (hS5.oldM g0) (by omega)).mono ?_
  rintro e w6 ⟨z0, z0r, rfl, hlz0, hN⟩
  have HLz0 := hid hlz0
  clear hlz0
  have hS6 := hS5.callM hN
  clear hN hS5
  go_wp2_with fail
  refine (eqIntSS_c _ _ _ _ (x0) (x0) _ (((hS6).dropRows).rdM HLy0.out) ((hS6).rdM HLz0.out)).mono ?_
  rintro e _ ⟨rfl, n7, hN⟩
  subst hN
  have hS7 := hS6.drewN n7
  clear hS6
  go_wp2_with fail
  go_ret
  first | exact ⟨rfl, hS7.bel⟩ | (rw [← World.drewN_drewN]; exact ⟨rfl, hS7.bel⟩)

theorem own : ownKnob Try.prog.godebug = none := by kernel_rfl
theorem laidOut : laidOutB Try.prog = true := by kernel_rfl

set_option maxRecDepth 100000 in
theorem lifted (os : Os) (started : os.Started) (H : Type) (enc : TypeId × Value → H) :
    ReturnsInHanded {} Try.checked os 7 .any (Rows.fnExactRankModSpec.pre6 enc Try.prog Try.f7 Rows.fnExactRankModRow.domain false) (Rows.fnExactRankModSpec.post enc Try.prog Try.f7 false true false false) := by
  refine returnsInHanded_of_change (C := Try.checked) own started (by kernel_rfl) Try.func7
    (ChangeSpec.witness6 (enc := enc) (C := Try.checked) false ⟨#[], #[.slice none 0 0, .int .i64 0], []⟩ 8 (by kernel_rfl) (by kernel_rfl) (by kernel_rfl) (by kernel_rfl)) ?_
  intro W base args ds gs before hval0 hW hcnd _
  have hval : ∀ (j : Nat) t v, Try.f7.params[j]? = some t → args[j]? = some v → Value.okWide Try.prog W .any base t v := hval0
  have hW' := hW
  obtain ⟨p, q, hA0, hV, rfl, hfz, hnd⟩ := hW
  have hA : DataW.TrodAll enc Try.prog W 0 (fun _ => true) true Try.f7.params.toList args.toList ds p := hA0
  rw [Try.params7] at hA hval
  obtain ⟨v0, vs0, d0, ds0, p0, q0, hargs, rfl, rfl, h0, r0⟩ := trodAll_cons hA
  obtain ⟨v1, vs1, d1, ds1, p1, q1, rfl, rfl, rfl, h1, r1⟩ := trodAll_cons r0
  obtain ⟨rfl, rfl, rfl⟩ := trodAll_nil r1
  obtain rfl : args = #[v0, v1] := by cases args; simp_all
  obtain ⟨rfl, rfl⟩ := trodVars_none hV
  obtain ⟨s0, len0, cap0, rfl⟩ := okWide_slice Try.underlying22 (hval 0 22 v0 rfl rfl)
  have k0 := h0
  have lt0 : ∀ x ∈ p0, x.block < W.heap.size := by obtain ⟨m, hm⟩ := k0; exact DataW.trod_lt m _ _ _ hm
  obtain ⟨b0, z0, g0⟩ : ∃ bs zs, RdM W (.slice s0 len0 cap0) bs zs := by
    obtain ⟨fuel, hf⟩ := h0
    rcases Go.Deep.open_int_rows Try.underlying22 Try.underlying34 Try.underlying3 (by kernel_rfl) (by kernel_rfl) hf with ⟨hcs, _⟩ | ⟨x, l, c, A0, L0, C0, Z0, hcs, _, hl, hm, _, hr⟩
    · simp [Value.cells] at hcs
      obtain ⟨rfl, rfl, rfl⟩ := hcs
      exact ⟨[], [], rdM_nil W⟩
    · simp [Value.cells] at hcs
      obtain ⟨rfl, rfl, rfl⟩ := hcs
      exact ⟨_, _, rdM_of_open hl hm hr⟩
  obtain ⟨a1, rfl, rfl, rfl, w1⟩ := open_int Try.underlying3 (hval 1 3 v1 rfl rfl) h1
  clear hA0 hval0
  refine (law_c _ b0 z0 a1 W g0).mono fun e W' ⟨he, bel⟩ => ?_
  subst he
  exact ⟨_, rfl, _, _, _, [], _, [], hW', trodAll_mk1 (shut_bool Try.underlying4 _), (trodAll_cons_mk (Below.trod laidOut (by kernel_rfl) (of_decide_eq_true (by kernel_rfl)) k0 bel lt0) (trodAll_cons_mk (shut_int Try.underlying3 w1) trodAll_mk0)), rfl, bel.frame _, fun h => by cases h⟩

theorem over : Rows.fnExactRankModRow.holds Try.pinned (OpenSpec.ofChange Rows.fnExactRankModSpec) :=
  OpenClaim.holds_of_wide 7 Try.f7 rfl rfl rfl rfl rfl rfl rfl ⟨rfl, rfl, rfl, rfl, rfl⟩ rfl rfl rfl rfl rfl (by kernel_rfl) Try.func7 (by kernel_rfl)
    (of_decide_eq_true (by kernel_rfl)) (by unfold Func.isWrapper; first | (rw [if_pos (by decide +kernel)]; kernel_rfl) | (rw [if_neg (by decide +kernel)]; exact ⟨rfl, rfl⟩))
    (fun os started H enc _ => lifted os started H enc)

theorem proved : Rows.FnExactRankModSaid :=
  over
end Go.Proofs.Ytkfkmncecihflaa.fnExactRankMod
