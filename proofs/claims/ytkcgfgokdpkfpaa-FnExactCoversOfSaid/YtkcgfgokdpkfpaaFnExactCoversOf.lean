/-
  The statement Rows.FnExactCoversOfSaid: the law answers true at every input, and its arguments read afterwards as before. No further condition.
-/
import Derived.Test.YtkcgfgokdpkfpaaOf
import Derived.Test.YtkcgfgokdpkfpaaLaws
import Derived.ProofKit
import Derived.OpenShut
import Derived.ChangeOld
namespace Go.Proofs.Ytkcgfgokdpkfpaa.fnExactCoversOf
open Go.ChangeShapes Go.WideShapes Go.ChangeAt Go.RowKit
set_option linter.unusedVariables false

set_option maxHeartbeats 2000000 in
set_option maxRecDepth 100000 in
theorem law_c (a0 : Int) (u1 : Value) (x1 : List Int) (w : World) (g1 : Rd w u1 (ints x1)) : Calls Try.prog 4 #[.int .i64 a0, u1] w fun e w' => e = .returned (.bool true) ∧ Below w.heap.size w w' := by
  have hR : (covB a0 x1).length ≤ 1000000 := by have := covB_len a0 x1; omega
  obtain ⟨R, hRR⟩ : ∃ R, R = covB a0 x1 := ⟨_, rfl⟩
  have HR := hid hRR; rw [← hRR] at hR; clear hRR
  have la := g1.iln tI
  by_cases hbig : 1048576 < x1.length
  · have HB := hid hbig
    go_enter Try.func4, Try.ntmps4
    go_wp2_with fail
    go_ret
    exact ⟨rfl, Below.refl _ _⟩
  have hx1 : x1.length ≤ 1048576 := by omega
  clear hbig
  go_enter Try.func4, Try.ntmps4
  have hS0 := St.start w
  go_wp2_with fail
  refine (toIntS_c _ x1 _ (hS0.old g1) (by omega)).mono ?_
  rintro e w1 ⟨t1, rfl, hN⟩
  have hS1 : St w w1 [⟨t1, 3, ints x1⟩] := hS0.call1 hN
  clear hN hS0
  go_wp2_with fail
  refine (sCoversOf_c a0 _ x1 _ (hS1.hd)).mono ?_
  rw [← HR.out]
  rintro e w2 ⟨v0, rfl, hN⟩
  have hS2 : St w w2 [⟨v0, 3, ints R⟩, ⟨t1, 3, ints x1⟩] := hS1.call1 hN
  clear hN hS1
  go_wp2_with fail
  refine (toIntS_c _ x1 _ (hS2.old g1) (by omega)).mono ?_
  rintro e w3 ⟨y1, rfl, hN⟩
  have hS3 : St w w3 [⟨y1, 3, ints x1⟩, ⟨v0, 3, ints R⟩, ⟨t1, 3, ints x1⟩] := hS2.call1 hN
  clear hN hS2
  go_wp2_with fail
  refine (CoversOf_c a0 _ x1 _ (hS3.hd)).mono ?_
  rw [← HR.out]
  rintro e w4 ⟨r0, rfl, hN⟩
  have hS4 : St w w4 [⟨r0, 3, ints R⟩, ⟨y1, 3, ints x1⟩, ⟨v0, 3, ints R⟩, ⟨t1, 3, ints x1⟩] := hS3.call1 hN
  clear hN hS3
  go_wp2_with fail
  refine (eqIntS_c _ _ (R) (R) _ (hS4.hd) (hS4.hd3)).mono ?_
  rintro e _ ⟨rfl, n5, rfl⟩
  have hS5 : St w _ [⟨r0, 3, ints R⟩, ⟨y1, 3, ints x1⟩, ⟨v0, 3, ints R⟩, ⟨t1, 3, ints x1⟩] := hS4.drewN n5
  clear hS4
  go_wp2_with fail
  refine (toIntS_c _ x1 _ (hS5.old g1) (by omega)).mono ?_
  rintro e w6 ⟨z1, rfl, hN⟩
  have hS6 : St w w6 [⟨z1, 3, ints x1⟩, ⟨r0, 3, ints R⟩, ⟨y1, 3, ints x1⟩, ⟨v0, 3, ints R⟩, ⟨t1, 3, ints x1⟩] := hS5.call1 hN
  clear hN hS5
  go_wp2_with fail
  refine (eqIntS_c _ _ (x1) (x1) _ (hS6.hd3) (hS6.hd)).mono ?_
  rintro e _ ⟨rfl, n7, rfl⟩
  have hS7 : St w _ [⟨z1, 3, ints x1⟩, ⟨r0, 3, ints R⟩, ⟨y1, 3, ints x1⟩, ⟨v0, 3, ints R⟩, ⟨t1, 3, ints x1⟩] := hS6.drewN n7
  clear hS6
  have hS8 : St w _ [⟨y1, 3, ints x1⟩, ⟨z1, 3, ints x1⟩, ⟨r0, 3, ints R⟩, ⟨v0, 3, ints R⟩, ⟨t1, 3, ints x1⟩] := hS7.bring (l1 := [_, _])
  clear hS7
  go_wp2_with fail
  refine (markIntS_c _ _ 1 _ _ _ hS8.own (ints_cells _) (by omega) (by simp; omega)).mono ?_
  rintro e w9 ⟨rfl, hO, hB⟩
  rw [length_ints] at hO ⊢
  have hS9 : St w w9 [⟨y1, 3, ints (marks 1 (x1).length)⟩, ⟨z1, 3, ints x1⟩, ⟨r0, 3, ints R⟩, ⟨v0, 3, ints R⟩, ⟨t1, 3, ints x1⟩] := hS8.mut hO hB
  clear hO hB hS8
  go_wp2_with fail
  refine (eqIntS_c _ _ (R) (R) _ (hS9.hd3) (hS9.hd4)).mono ?_
  rintro e _ ⟨rfl, n10, rfl⟩
  have hS10 : St w _ [⟨y1, 3, ints (marks 1 (x1).length)⟩, ⟨z1, 3, ints x1⟩, ⟨r0, 3, ints R⟩, ⟨v0, 3, ints R⟩, ⟨t1, 3, ints x1⟩] := hS9.drewN n10
  clear hS9
  have hS11 : St w _ [⟨r0, 3, ints R⟩, ⟨y1, 3, ints (marks 1 (x1).length)⟩, ⟨z1, 3, ints x1⟩, ⟨v0, 3, ints R⟩, ⟨t1, 3, ints x1⟩] := hS10.bring (l1 := [_, _])
  clear hS10
  go_wp2_with fail
  refine (markIntS_c _ _ 1 _ _ _ hS11.own (ints_cells _) (by omega) (by simp; omega)).mono ?_
  rintro e w12 ⟨rfl, hO, hB⟩
  rw [length_ints] at hO ⊢
  have hS12 : St w w12 [⟨r0, 3, ints (marks 1 (R).length)⟩, ⟨y1, 3, ints (marks 1 (x1).length)⟩, ⟨z1, 3, ints x1⟩, ⟨v0, 3, ints R⟩, ⟨t1, 3, ints x1⟩] := hS11.mut hO hB
  clear hO hB hS11
  go_wp2_with fail
  refine (heldIntS_c _ 1 (R).length _ (hS12.hd) (by omega) (by omega)).mono ?_
  rintro e _ ⟨rfl, n13, rfl⟩
  have hS13 : St w _ [⟨r0, 3, ints (marks 1 (R).length)⟩, ⟨y1, 3, ints (marks 1 (x1).length)⟩, ⟨z1, 3, ints x1⟩, ⟨v0, 3, ints R⟩, ⟨t1, 3, ints x1⟩] := hS12.drewN n13
  clear hS12
  go_wp2_with fail
  refine (toIntS_c _ x1 _ (hS13.old g1) (by omega)).mono ?_
  rintro e w14 ⟨s1, rfl, hN⟩
  have hS14 : St w w14 [⟨s1, 3, ints x1⟩, ⟨r0, 3, ints (marks 1 (R).length)⟩, ⟨y1, 3, ints (marks 1 (x1).length)⟩, ⟨z1, 3, ints x1⟩, ⟨v0, 3, ints R⟩, ⟨t1, 3, ints x1⟩] := hS13.call1 hN
  clear hN hS13
  go_wp2_with fail
  refine (CoversOf_c a0 _ x1 _ (hS14.hd)).mono ?_
  rw [← HR.out]
  rintro e w15 ⟨h0, rfl, hN⟩
  have hS15 : St w w15 [⟨h0, 3, ints R⟩, ⟨s1, 3, ints x1⟩, ⟨r0, 3, ints (marks 1 (R).length)⟩, ⟨y1, 3, ints (marks 1 (x1).length)⟩, ⟨z1, 3, ints x1⟩, ⟨v0, 3, ints R⟩, ⟨t1, 3, ints x1⟩] := hS14.call1 hN
  clear hN hS14
  go_wp2_with fail
  refine (eqIntS_c _ _ (R) (R) _ (hS15.hd) (hS15.hd6)).mono ?_
  rintro e _ ⟨rfl, n16, rfl⟩
  have hS16 : St w _ [⟨h0, 3, ints R⟩, ⟨s1, 3, ints x1⟩, ⟨r0, 3, ints (marks 1 (R).length)⟩, ⟨y1, 3, ints (marks 1 (x1).length)⟩, ⟨z1, 3, ints x1⟩, ⟨v0, 3, ints R⟩, ⟨t1, 3, ints x1⟩] := hS15.drewN n16
  clear hS15
  go_wp2_with fail
  refine (heldIntS_c _ 1 (R).length _ (hS16.hd3) (by omega) (by omega)).mono ?_
  rintro e _ ⟨rfl, n17, rfl⟩
  have hS17 : St w _ [⟨h0, 3, ints R⟩, ⟨s1, 3, ints x1⟩, ⟨r0, 3, ints (marks 1 (R).length)⟩, ⟨y1, 3, ints (marks 1 (x1).length)⟩, ⟨z1, 3, ints x1⟩, ⟨v0, 3, ints R⟩, ⟨t1, 3, ints x1⟩] := hS16.drewN n17
  clear hS16
  go_wp2_with fail
  go_ret
  first | exact ⟨rfl, hS17.bel⟩ | (rw [← World.drewN_drewN]; exact ⟨rfl, hS17.bel⟩)

theorem own : ownKnob Try.prog.godebug = none := by kernel_rfl
theorem laidOut : laidOutB Try.prog = true := by kernel_rfl

set_option maxRecDepth 100000 in
theorem lifted (os : Os) (started : os.Started) (H : Type) (enc : TypeId × Value → H) :
    ReturnsInHanded {} Try.checked os 4 .any (Rows.fnExactCoversOfSpec.pre6 enc Try.prog Try.f4 Rows.fnExactCoversOfRow.domain false) (Rows.fnExactCoversOfSpec.post enc Try.prog Try.f4 false true false false) := by
  refine returnsInHanded_of_change (C := Try.checked) own started (by kernel_rfl) Try.func4
    (ChangeSpec.witness6 (enc := enc) (C := Try.checked) false ⟨#[], #[.int .i64 0, .slice none 0 0], []⟩ 8 (by kernel_rfl) (by kernel_rfl) (by kernel_rfl) (by kernel_rfl)) ?_
  intro W base args ds gs before hval0 hW hcnd _
  have hval : ∀ (j : Nat) t v, Try.f4.params[j]? = some t → args[j]? = some v → Value.okWide Try.prog W .any base t v := hval0
  have hW' := hW
  obtain ⟨p, q, hA0, hV, rfl, hfz, hnd⟩ := hW
  have hA : DataW.TrodAll enc Try.prog W 0 (fun _ => true) true Try.f4.params.toList args.toList ds p := hA0
  rw [Try.params4] at hA hval
  obtain ⟨v0, vs0, d0, ds0, p0, q0, hargs, rfl, rfl, h0, r0⟩ := trodAll_cons hA
  obtain ⟨v1, vs1, d1, ds1, p1, q1, rfl, rfl, rfl, h1, r1⟩ := trodAll_cons r0
  obtain ⟨rfl, rfl, rfl⟩ := trodAll_nil r1
  obtain rfl : args = #[v0, v1] := by cases args; simp_all
  obtain ⟨rfl, rfl⟩ := trodVars_none hV
  obtain ⟨a0, rfl, rfl, rfl, w0⟩ := open_int Try.underlying3 (hval 0 3 v0 rfl rfl) h0
  obtain ⟨s1, len1, cap1, rfl⟩ := okWide_slice Try.underlying22 (hval 1 22 v1 rfl rfl)
  have k1 := h1
  have lt1 : ∀ x ∈ p1, x.block < W.heap.size := by obtain ⟨m, hm⟩ := k1; exact DataW.trod_lt m _ _ _ hm
  obtain ⟨z1, g1⟩ : ∃ zs, Rd W (.slice s1 len1 cap1) (ints zs) := by
    obtain ⟨fuel, hf⟩ := h1
    rcases open_ints Try.underlying22 Try.underlying3 (by kernel_rfl) hf with ⟨hcs, _⟩ | ⟨x, l, c, zs, hcs, _, hl, hm, hz, _, hcell, _⟩
    · simp [Value.cells] at hcs
      obtain ⟨rfl, rfl, rfl⟩ := hcs
      exact ⟨[], .inl ⟨rfl, rfl⟩⟩
    · simp [Value.cells] at hcs
      obtain ⟨rfl, rfl, rfl⟩ := hcs
      exact ⟨_, rd_of_open hl hm (by simp at hz; omega) hcell⟩
  clear hA0 hval0
  refine (law_c a0 _ z1 W g1).mono fun e W' ⟨he, bel⟩ => ?_
  subst he
  exact ⟨_, rfl, _, _, _, [], _, [], hW', trodAll_mk1 (shut_bool Try.underlying4 _), (trodAll_cons_mk (shut_int Try.underlying3 w0) (trodAll_cons_mk (Below.trod laidOut (by kernel_rfl) (of_decide_eq_true (by kernel_rfl)) k1 bel lt1) trodAll_mk0)), rfl, bel.frame _, fun h => by cases h⟩

theorem over : Rows.fnExactCoversOfRow.holds Try.pinned (OpenSpec.ofChange Rows.fnExactCoversOfSpec) :=
  OpenClaim.holds_of_wide 4 Try.f4 rfl rfl rfl rfl rfl rfl rfl ⟨rfl, rfl, rfl, rfl, rfl⟩ rfl rfl rfl rfl rfl (by kernel_rfl) Try.func4 (by kernel_rfl)
    (of_decide_eq_true (by kernel_rfl)) (by unfold Func.isWrapper; first | (rw [if_pos (by decide +kernel)]; kernel_rfl) | (rw [if_neg (by decide +kernel)]; exact ⟨rfl, rfl⟩))
    (fun os started H enc _ => lifted os started H enc)

theorem proved : Rows.FnExactCoversOfSaid :=
  over
end Go.Proofs.Ytkcgfgokdpkfpaa.fnExactCoversOf
