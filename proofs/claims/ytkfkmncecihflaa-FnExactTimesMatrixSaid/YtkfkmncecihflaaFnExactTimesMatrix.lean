/-
  The statement Rows.FnExactTimesMatrixSaid: the law answers true at every input, and its arguments read afterwards as before. No further condition.
-/
import Derived.Test.YtkfkmncecihflaaTimes
import Derived.Test.YtkfkmncecihflaaMLaws2
import Derived.ProofKit
import Derived.OpenShut
import Derived.ChangeOld
namespace Go.Proofs.Ytkfkmncecihflaa.fnExactTimesMatrix
open Go.ChangeShapes Go.WideShapes Go.ChangeAt Go.RowKit
set_option linter.unusedVariables false

set_option maxHeartbeats 40000000 in
set_option maxRecDepth 100000 in
theorem law_c (u0 : Value) (b0 : List Value) (x0 : List (List Int)) (u1 : Value) (b1 : List Value) (x1 : List (List Int)) (w : World) (g0 : RdM w u0 b0 x0) (g1 : RdM w u1 b1 x1) : Calls Try.prog 6 #[u0, u1] w fun e w' => e = .returned (.bool true) ∧ Below w.heap.size w w' := by
  have la0 := g0.ln
  have la1 := g1.ln
  by_cases hbig : (1048576 : Int) < (szN2 x0 : Int)
  · skip
    go_enter Try.func6, Try.ntmps6
    have hS0 := hid (St.start w)
    go_wp2_with fail
    refine (szIntSS_big _ b0 x0 (1048576) _ (hS0.out.oldM g0) (by omega) (by omega) (by omega)).mono ?_
    rintro e w1 ⟨rfl, hN⟩
    have hS1 := hid (hS0.out.quiet hN)
    clear hN hS0
    go_wp2_with fail
    go_ret
    first | exact ⟨rfl, hS1.out.bel⟩ | (rw [← World.drewN_drewN]; exact ⟨rfl, hS1.out.bel⟩)
  have hx0 : (szN2 x0 : Int) ≤ 1048576 := by omega
  have hy0 : (szN2 x0 : Int) ≤ 1048576 := by omega
  clear hbig
  have hz0 := szN2_cnt x0
  by_cases hbig : (1048576 - (szN2 x0 : Int) : Int) < (szN2 x1 : Int)
  · skip
    go_enter Try.func6, Try.ntmps6
    have hS0 := hid (St.start w)
    go_wp2_with fail
    refine (szIntSS_ok _ b0 x0 (1048576) _ (hS0.out.oldM g0) (by omega) (by omega)).mono ?_
    rintro e w1 ⟨rfl, hN⟩
    have hS1 := hid (hS0.out.quiet hN)
    clear hN hS0
    go_wp2_with fail
    refine (szIntSS_big _ b1 x1 (1048576 - (szN2 x0 : Int)) _ (hS1.out.oldM g1) (by omega) (by omega) (by omega)).mono ?_
    rintro e w2 ⟨rfl, hN⟩
    have hS2 := hid (hS1.out.quiet hN)
    clear hN hS1
    go_wp2_with fail
    go_ret
    first | exact ⟨rfl, hS2.out.bel⟩ | (rw [← World.drewN_drewN]; exact ⟨rfl, hS2.out.bel⟩)
  have hx1 : (szN2 x1 : Int) ≤ 1048576 := by omega
  have hy1 : (szN2 x1 : Int) ≤ 1048576 - (szN2 x0 : Int) := by omega
  clear hbig
  have hz1 := szN2_cnt x1
  have hR : cnt (timesM x0 x1) ≤ 1048576 := by have := timesM_cnt x0 x1; omega
  obtain ⟨R, hRR⟩ : ∃ R, R = timesM x0 x1 := ⟨_, rfl⟩
  have HR := hid hRR; rw [← hRR] at hR; clear hRR
  obtain ⟨BB, hBB⟩ : ∃ B, B = timesB x0 x1 := ⟨_, rfl⟩
  have HBB := hid hBB; clear hBB
  have eBB : (BB != BB) = false := by simp
  have hc0 : cnt x0 ≤ 1048576 := by omega
  clear hz0
  have hc1 : cnt x1 ≤ 1048576 := by omega
  clear hz1
  go_enter Try.func6, Try.ntmps6
  have hS0 := hid (St.start w)
  go_wp2_with fail
  refine (szIntSS_ok _ b0 x0 (1048576) _ (hS0.out.oldM g0) (by omega) (by omega)).mono ?_
  rintro e w1 ⟨rfl, hN⟩
  have hS1 := hid (hS0.out.quiet hN)
  clear hN hS0
  go_wp2_with fail
  refine (szIntSS_ok _ b1 x1 (1048576 - (szN2 x0 : Int)) _ (hS1.out.oldM g1) (by omega) (by omega)).mono ?_
  rintro e w2 ⟨rfl, hN⟩
  have hS2 := hid (hS1.out.quiet hN)
  clear hN hS1
  go_wp2_with fail
  refine (toIntSS_c _ b0 x0 _ (hS2.out.oldM g0) (by omega)).mono ?_
  rintro e w3 ⟨t0, t0r, rfl, hlt0, hN⟩
  have HLt0 := hid hlt0
  clear hlt0
  have hS3 := hid (hS2.out.callM hN)
  clear hN hS2
  go_wp2_with fail
  refine (toIntSS_c _ b1 x1 _ (hS3.out.oldM g1) (by omega)).mono ?_
  rintro e w4 ⟨t1, t1r, rfl, hlt1, hN⟩
  have HLt1 := hid hlt1
  clear hlt1
  have hS4 := hid (hS3.out.callM hN)
  clear hN hS3
  go_wp2_with fail
  refine (sTimesMatrix_c _ _ _ _ x0 x1 _ (((hS4.out).dropRows).rdM HLt0.out) ((hS4.out).rdM HLt1.out)).mono ?_
  rw [← HR.out, ← HBB.out]
  rintro e w5 ⟨v0, v0r, rfl, hlv0, hN⟩
  have HLv0 := hid hlv0
  clear hlv0
  have hS5 := hid (hS4.out.callM hN)
  clear hN hS4
  go_wp2_with fail
  refine (toIntSS_c _ b0 x0 _ (hS5.out.oldM g0) (by omega)).mono ?_
  rintro e w6 ⟨y0, y0r, rfl, hly0, hN⟩
  have HLy0 := hid hly0
  clear hly0
  have hS6 := hid (hS5.out.callM hN)
  clear hN hS5
  go_wp2_with fail
  refine (toIntSS_c _ b1 x1 _ (hS6.out.oldM g1) (by omega)).mono ?_
  rintro e w7 ⟨y1, y1r, rfl, hly1, hN⟩
  have HLy1 := hid hly1
  clear hly1
  have hS7 := hid (hS6.out.callM hN)
  clear hN hS6
  go_wp2_with fail
  refine (TimesMatrix_c _ _ _ _ x0 x1 _ (((hS7.out).dropRows).rdM HLy0.out) ((hS7.out).rdM HLy1.out)).mono ?_
  rw [← HR.out, ← HBB.out]
  rintro e w8 ⟨r0, r0r, rfl, hlr0, hN⟩
  have HLr0 := hid hlr0
  clear hlr0
  have hS8 := hid (hS7.out.callM hN)
  clear hN hS7
  go_wp2_with fail
  refine (eqIntSS_c _ _ _ _ (R) (R) _ ((hS8.out).rdM HLr0.out) (((((hS8.out).dropRows).dropRows).dropRows).rdM HLv0.out)).mono ?_
  rintro e _ ⟨rfl, n9, hN⟩
  subst hN
  have hS9 := hid (hS8.out.drewN n9)
  clear hS8
  go_wp2_with fail
  refine (toIntSS_c _ b0 x0 _ (hS9.out.oldM g0) (by omega)).mono ?_
  rintro e w10 ⟨z0, z0r, rfl, hlz0, hN⟩
  have HLz0 := hid hlz0
  clear hlz0
  have hS10 := hid (hS9.out.callM hN)
  clear hN hS9
  go_wp2_with fail
  refine (eqIntSS_c _ _ _ _ (x0) (x0) _ (((((hS10.out).dropRows).dropRows).dropRows).rdM HLy0.out) ((hS10.out).rdM HLz0.out)).mono ?_
  rintro e _ ⟨rfl, n11, hN⟩
  subst hN
  have hS11 := hid (hS10.out.drewN n11)
  clear hS10
  go_wp2_with fail
  refine (toIntSS_c _ b1 x1 _ (hS11.out.oldM g1) (by omega)).mono ?_
  rintro e w12 ⟨z1, z1r, rfl, hlz1, hN⟩
  have HLz1 := hid hlz1
  clear hlz1
  have hS12 := hid (hS11.out.callM hN)
  clear hN hS11
  go_wp2_with fail
  refine (eqIntSS_c _ _ _ _ (x1) (x1) _ (((((hS12.out).dropRows).dropRows).dropRows).rdM HLy1.out) ((hS12.out).rdM HLz1.out)).mono ?_
  rintro e _ ⟨rfl, n13, hN⟩
  subst hN
  have hS13 := hid (hS12.out.drewN n13)
  clear hS12
  go_wp2_with fail
  have hS14 := hid (hS13.out.perm ((rowsPerm ((rowsPerm ((rowsPerm ((rowsPerm (List.Perm.refl _)).trans rowsSwap)).trans rowsSwap)).trans rowsSwap)).trans rowsSwap))
  clear hS13
  refine (markIntSS_c _ _ _ _ (1) _ _ _ hS14.out HLy0.out (by omega) (by omega)).mono ?_
  rintro e w15 ⟨rfl, hN⟩
  have hS15 := hid hN
  clear hN hS14
  replace HLy0 : Hid (y0r.length = (markTo (1) x0 (x0).length).length) := by show _ = _; rw [markTo_len]; exact HLy0.out
  go_wp2_with fail
  have hS16 := hid (hS15.out.perm ((rowsPerm ((rowsPerm ((rowsPerm ((rowsPerm (List.Perm.refl _)).trans rowsSwap)).trans rowsSwap)).trans rowsSwap)).trans rowsSwap))
  clear hS15
  refine (markIntSS_c _ _ _ _ (1 + (cnt x0 : Int)) _ _ _ hS16.out HLy1.out (by omega) (by omega)).mono ?_
  rintro e w17 ⟨rfl, hN⟩
  have hS17 := hid hN
  clear hN hS16
  replace HLy1 : Hid (y1r.length = (markTo (1 + (cnt x0 : Int)) x1 (x1).length).length) := by show _ = _; rw [markTo_len]; exact HLy1.out
  go_wp2_with fail
  refine (eqIntSS_c _ _ _ _ (R) (R) _ ((((((hS17.out).dropRows).dropRows).dropRows).dropRows).rdM HLr0.out) (((((((hS17.out).dropRows).dropRows).dropRows).dropRows).dropRows).rdM HLv0.out)).mono ?_
  rintro e _ ⟨rfl, n18, hN⟩
  subst hN
  have hS18 := hid (hS17.out.drewN n18)
  clear hS17
  go_wp2_with fail
  have hS19 := hid (hS18.out.perm ((rowsPerm ((rowsPerm ((rowsPerm ((rowsPerm (List.Perm.refl _)).trans rowsSwap)).trans rowsSwap)).trans rowsSwap)).trans rowsSwap))
  clear hS18
  refine (markIntSS_c _ _ _ _ (1) _ _ _ hS19.out HLr0.out (by omega) (by omega)).mono ?_
  rintro e w20 ⟨rfl, hN⟩
  have hS20 := hid hN
  clear hN hS19
  replace HLr0 : Hid (r0r.length = (markTo (1) R (R).length).length) := by show _ = _; rw [markTo_len]; exact HLr0.out
  go_wp2_with fail
  refine (heldIntSS_c _ _ (R) 1 _ ((hS20.out).rdM HLr0.out) (by omega) (by omega)).mono ?_
  rintro e _ ⟨rfl, n21, hN⟩
  subst hN
  have hS21 := hid (hS20.out.drewN n21)
  clear hS20
  go_wp2_with fail
  refine (toIntSS_c _ b0 x0 _ (hS21.out.oldM g0) (by omega)).mono ?_
  rintro e w22 ⟨s0, s0r, rfl, hls0, hN⟩
  have HLs0 := hid hls0
  clear hls0
  have hS22 := hid (hS21.out.callM hN)
  clear hN hS21
  go_wp2_with fail
  refine (toIntSS_c _ b1 x1 _ (hS22.out.oldM g1) (by omega)).mono ?_
  rintro e w23 ⟨s1, s1r, rfl, hls1, hN⟩
  have HLs1 := hid hls1
  clear hls1
  have hS23 := hid (hS22.out.callM hN)
  clear hN hS22
  go_wp2_with fail
  refine (TimesMatrix_c _ _ _ _ x0 x1 _ (((hS23.out).dropRows).rdM HLs0.out) ((hS23.out).rdM HLs1.out)).mono ?_
  rw [← HR.out, ← HBB.out]
  rintro e w24 ⟨h0, h0r, rfl, hlh0, hN⟩
  have HLh0 := hid hlh0
  clear hlh0
  have hS24 := hid (hS23.out.callM hN)
  clear hN hS23
  go_wp2_with fail
  refine (eqIntSS_c _ _ _ _ (R) (R) _ ((hS24.out).rdM HLh0.out) ((((((((((hS24.out).dropRows).dropRows).dropRows).dropRows).dropRows).dropRows).dropRows).dropRows).rdM HLv0.out)).mono ?_
  rintro e _ ⟨rfl, n25, hN⟩
  subst hN
  have hS25 := hid (hS24.out.drewN n25)
  clear hS24
  go_wp2_with fail
  refine (heldIntSS_c _ _ (R) 1 _ (((((hS25.out).dropRows).dropRows).dropRows).rdM HLr0.out) (by omega) (by omega)).mono ?_
  rintro e _ ⟨rfl, n26, hN⟩
  subst hN
  have hS26 := hid (hS25.out.drewN n26)
  clear hS25
  go_wp2_with fail
  go_ret
  first | exact ⟨rfl, hS26.out.bel⟩ | (rw [← World.drewN_drewN]; exact ⟨rfl, hS26.out.bel⟩)

theorem own : ownKnob Try.prog.godebug = none := by kernel_rfl
theorem laidOut : laidOutB Try.prog = true := by kernel_rfl

set_option maxRecDepth 100000 in
theorem lifted (os : Os) (started : os.Started) (H : Type) (enc : TypeId × Value → H) :
    ReturnsInHanded {} Try.checked os 6 .any (Rows.fnExactTimesMatrixSpec.pre6 enc Try.prog Try.f6 Rows.fnExactTimesMatrixRow.domain false) (Rows.fnExactTimesMatrixSpec.post enc Try.prog Try.f6 false true false false) := by
  refine returnsInHanded_of_change (C := Try.checked) own started (by kernel_rfl) Try.func6
    (ChangeSpec.witness6 (enc := enc) (C := Try.checked) false ⟨#[], #[.slice none 0 0, .slice none 0 0], []⟩ 8 (by kernel_rfl) (by kernel_rfl) (by kernel_rfl) (by kernel_rfl)) ?_
  intro W base args ds gs before hval0 hW hcnd _
  have hval : ∀ (j : Nat) t v, Try.f6.params[j]? = some t → args[j]? = some v → Value.okWide Try.prog W .any base t v := hval0
  have hW' := hW
  obtain ⟨p, q, hA0, hV, rfl, hfz, hnd⟩ := hW
  have hA : DataW.TrodAll enc Try.prog W 0 (fun _ => true) true Try.f6.params.toList args.toList ds p := hA0
  rw [Try.params6] at hA hval
  obtain ⟨v0, vs0, d0, ds0, p0, q0, hargs, rfl, rfl, h0, r0⟩ := trodAll_cons hA
  obtain ⟨v1, vs1, d1, ds1, p1, q1, rfl, rfl, rfl, h1, r1⟩ := trodAll_cons r0
  obtain ⟨rfl, rfl, rfl⟩ := trodAll_nil r1
  obtain rfl : args = #[v0, v1] := by cases args; simp_all
  obtain ⟨rfl, rfl⟩ := trodVars_none hV
  obtain ⟨s0, len0, cap0, rfl⟩ := okWide_slice Try.underlying22 (hval 0 22 v0 rfl rfl)
  have k0 := h0
  have lt0 : ∀ x ∈ p0, x.block < W.heap.size := by obtain ⟨m, hm⟩ := k0; exact DataW.trod_lt m _ _ _ hm
  obtain ⟨b0, z0, g0⟩ : ∃ bs zs, RdM W (.slice s0 len0 cap0) bs zs := by
    obtain ⟨fuel, hf⟩ := h0
    rcases Go.Deep.open_int_rows Try.underlying22 Try.underlying34 Try.underlying3 (by kernel_rfl) (by kernel_rfl) hf with ⟨hcs, _⟩ | ⟨x, l, c, A0, L0, C0, Z0, hcs, _, hl, hm, _, hr⟩
    · simp [Value.cells] at hcs
      obtain ⟨rfl, rfl, rfl⟩ := hcs
      exact ⟨[], [], rdM_nil W⟩
    · simp [Value.cells] at hcs
      obtain ⟨rfl, rfl, rfl⟩ := hcs
      exact ⟨_, _, rdM_of_open hl hm hr⟩
  obtain ⟨s1, len1, cap1, rfl⟩ := okWide_slice Try.underlying22 (hval 1 22 v1 rfl rfl)
  have k1 := h1
  have lt1 : ∀ x ∈ p1, x.block < W.heap.size := by obtain ⟨m, hm⟩ := k1; exact DataW.trod_lt m _ _ _ hm
  obtain ⟨b1, z1, g1⟩ : ∃ bs zs, RdM W (.slice s1 len1 cap1) bs zs := by
    obtain ⟨fuel, hf⟩ := h1
    rcases Go.Deep.open_int_rows Try.underlying22 Try.underlying34 Try.underlying3 (by kernel_rfl) (by kernel_rfl) hf with ⟨hcs, _⟩ | ⟨x, l, c, A0, L0, C0, Z0, hcs, _, hl, hm, _, hr⟩
    · simp [Value.cells] at hcs
      obtain ⟨rfl, rfl, rfl⟩ := hcs
      exact ⟨[], [], rdM_nil W⟩
    · simp [Value.cells] at hcs
      obtain ⟨rfl, rfl, rfl⟩ := hcs
      exact ⟨_, _, rdM_of_open hl hm hr⟩
  clear hA0 hval0
  refine (law_c _ b0 z0 _ b1 z1 W g0 g1).mono fun e W' ⟨he, bel⟩ => ?_
  subst he
  exact ⟨_, rfl, _, _, _, [], _, [], hW', trodAll_mk1 (shut_bool Try.underlying4 _), (trodAll_cons_mk (Below.trod laidOut (by kernel_rfl) (of_decide_eq_true (by kernel_rfl)) k0 bel lt0) (trodAll_cons_mk (Below.trod laidOut (by kernel_rfl) (of_decide_eq_true (by kernel_rfl)) k1 bel lt1) trodAll_mk0)), rfl, bel.frame _, fun h => by cases h⟩

theorem over : Rows.fnExactTimesMatrixRow.holds Try.pinned (OpenSpec.ofChange Rows.fnExactTimesMatrixSpec) :=
  OpenClaim.holds_of_wide 6 Try.f6 rfl rfl rfl rfl rfl rfl rfl ⟨rfl, rfl, rfl, rfl, rfl⟩ rfl rfl rfl rfl rfl (by kernel_rfl) Try.func6 (by kernel_rfl)
    (of_decide_eq_true (by kernel_rfl)) (by unfold Func.isWrapper; first | (rw [if_pos (by decide +kernel)]; kernel_rfl) | (rw [if_neg (by decide +kernel)]; exact ⟨rfl, rfl⟩))
    (fun os started H enc _ => lifted os started H enc)

theorem proved : Rows.FnExactTimesMatrixSaid :=
  over
end Go.Proofs.Ytkfkmncecihflaa.fnExactTimesMatrix
