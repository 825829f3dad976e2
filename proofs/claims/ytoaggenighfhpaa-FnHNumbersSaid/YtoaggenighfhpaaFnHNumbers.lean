/-
  The statement Rows.FnHNumbersSaid: the law answers true at every input, and its arguments read afterwards as before. No further condition.
-/
import Derived.Test.YtoaggenighfhpaaHLaw
import Derived.ProofKit
import Derived.OpenShut
import Derived.ChangeOld
namespace Go.Proofs.Ytoaggenighfhpaa.fnHNumbers
open Go.ChangeShapes Go.WideShapes Go.ChangeAt Go.RowKit
set_option linter.unusedVariables false

set_option maxHeartbeats 40000000 in
set_option maxRecDepth 100000 in
theorem law_c (u : Value) (z : List Int) (w : World) (g0 : Rd w u (byts z)) : Calls Try.prog 3 #[u] w fun e w' => e = .returned (.bool true) ∧ Below w.heap.size w w' := by
  by_cases hbig : 1048576 < (z.length : Int)
  · go_enter Try.func3, Try.ntmps3
    go_wp2_with (go_at_call 6; refine (big_c u z _ g0).mono ?_; rw [decide_eq_true hbig]; rintro e w' ⟨rfl, rfl⟩)
    go_ret
    exact ⟨rfl, Below.refl _ _⟩
  · have HS := hid (St.start w)
    have G := hid g0
    have HBG := hid (decide_eq_false hbig)
    clear hbig
    go_enter Try.func3, Try.ntmps3
    go_wp2_with (go_at_call 6; refine (big_c u z _ g0).mono ?_; rw [HBG.out]; rintro e w' ⟨rfl, rfl⟩)
    refine (DrawHNumbers_c u z _ g0).mono ?_
    rintro e w1 ⟨n, v, fs, rfl, _, hS1⟩
    obtain ⟨p, l, c, rfl⟩ := hS1.hd.form
    have hS2 := (HS.out.call1 hS1).boxAt n (.slice p l c) 26 (H := w1.heap.size) rfl
    have c0 := hS2.hd.c0
    have c1 := hS2.hd.c1
    have HS2 := hid hS2
    clear hS1 hS2
    unfold cx
    go_wp2_with fail
    refine (HNumbers_c n _ fs _ HS2.out.hd2).mono ?_
    rintro e w2 ⟨vh, rfl, hN⟩
    have HS3 := hid (HS2.out.call1 hN)
    clear hN c0 c1
    go_wp2_with fail
    refine (DrawCountsFromH_c u z _ (HS3.out.old G.out)).mono ?_
    rintro e w3 ⟨vl, xs, rfl, _, hN⟩
    have HS4 := hid (HS3.out.call1 hN)
    clear hN
    go_wp2_with fail
    refine (DrawChoose_c u z _ (HS4.out.old G.out)).mono ?_
    rintro e w4 ⟨⟨n2, k2, rfl⟩, hB⟩
    have hS5 := HS4.out.quiet hB
    have c0 := hS5.hd3.c0
    have c1 := hS5.hd3.c1
    have HS5 := hid hS5
    clear hS5 hB
    go_wp2_with fail
    refine (GNumbers_c n _ fs _ HS5.out.hd4).mono ?_
    rintro e w5 ⟨vg, rfl, hN⟩
    have hS6 := HS5.out.call1 hN
    clear c0 c1
    have c0 := hS6.hd4.c0
    have c1 := hS6.hd4.c1
    have HS6 := hid hS6
    clear hS6 hN
    obtain ⟨ch, hch⟩ : ∃ ch, chooseB n2 k2 = ch := ⟨_, rfl⟩
    have HCH := hid hch
    have qch : (ch != ch) = false := by simp
    obtain ⟨sb, hsb⟩ : ∃ sb, symB n fs = sb := ⟨_, rfl⟩
    have HSB := hid hsb
    have qsb : (sb != sb) = false := by simp
    obtain ⟨tb, htb⟩ : ∃ tb, topB n fs = tb := ⟨_, rfl⟩
    have HTB := hid htb
    have qtb : (tb != tb) = false := by simp
    clear hch hsb htb
    go_wp2_with fail
    go_region_held3 (fun w' => w'.cell? ⟨w1.heap.size, 0, none⟩ = some (.int .i64 n) ∧ w'.cell? ⟨w1.heap.size, 1, none⟩ = some (.slice p l c)) (first | go_keep | exact ⟨k0', k1'⟩ | exact ⟨c0, c1⟩)
      (first
        | (go_at_call 22; refine (sTopH_c n _ fs _ (HA12.out).hd9).mono ?_; rw [HTB.out]; rintro e wa13 ⟨rfl, hN⟩; have hA := (HA12.out).quiet hN; have k0' := hA.hd8.c0; have k1' := hA.hd8.c1; have HA13 := hid hA; clear hA hN)
        | (go_at_call 21; refine (TopH_c n _ fs _ (HA11.out).hd9).mono ?_; rw [HTB.out]; rintro e wa12 ⟨rfl, hN⟩; have hA := (HA11.out).quiet hN; have k0' := hA.hd8.c0; have k1' := hA.hd8.c1; have HA12 := hid hA; clear hA hN)
        | (go_at_call 20; refine (sIsSymmetricH_c n _ fs _ (HA10.out).hd9).mono ?_; rw [HSB.out]; rintro e wa11 ⟨rfl, hN⟩; have hA := (HA10.out).quiet hN; have k0' := hA.hd8.c0; have k1' := hA.hd8.c1; have HA11 := hid hA; clear hA hN)
        | (go_at_call 19; refine (IsSymmetricH_c n _ fs _ (HA9.out).hd9).mono ?_; rw [HSB.out]; rintro e wa10 ⟨rfl, hN⟩; have hA := (HA9.out).quiet hN; have k0' := hA.hd8.c0; have k1' := hA.hd8.c1; have HA10 := hid hA; clear hA hN)
        | (go_at_call 12; refine (same_c _ _ (gB n fs) _ (HA8.out).hd5 (HA8.out).hd).mono ?_; rintro e _ ⟨rfl, q9, rfl⟩; have hA := (HA8.out).drewN q9; have k0' := hA.hd8.c0; have k1' := hA.hd8.c1; have HA9 := hid hA; clear hA)
        | (go_at_call 18; refine (sGNumbers_c n _ fs _ (HA5.out).hd8).mono ?_; rintro e wa8 ⟨vd, rfl, hN⟩; have hA := (HA5.out).call1 hN; have k0' := hA.hd8.c0; have k1' := hA.hd8.c1; have HA8 := hid hA; clear hA hN)
        | (go_at_call 17; refine (sChoose_c n2 k2 _).mono ?_; rw [HCH.out]; rintro e w' ⟨rfl, rfl⟩)
        | (go_at_call 16; refine (Choose_c n2 k2 _).mono ?_; rw [HCH.out]; rintro e w' ⟨rfl, rfl⟩)
        | (go_at_call 12; refine (same_c _ _ (cfhB xs) _ (HA4.out).hd2 (HA4.out).hd).mono ?_; rintro e _ ⟨rfl, q5, rfl⟩; have hA := (HA4.out).drewN q5; have k0' := hA.hd7.c0; have k1' := hA.hd7.c1; have HA5 := hid hA; clear hA)
        | (go_at_call 15; refine (sCountsFromH_c _ xs _ (HA3.out).hd4).mono ?_; rintro e wa4 ⟨vc, rfl, hN⟩; have hA := (HA3.out).call1 hN; have k0' := hA.hd7.c0; have k1' := hA.hd7.c1; have HA4 := hid hA; clear hA hN)
        | (go_at_call 14; refine (CountsFromH_c _ xs _ (HA2.out).hd3).mono ?_; rintro e wa3 ⟨vb, rfl, hN⟩; have hA := (HA2.out).call1 hN; have k0' := hA.hd6.c0; have k1' := hA.hd6.c1; have HA3 := hid hA; clear hA hN)
        | (go_at_call 12; refine (same_c _ _ (hB n fs) _ (HA1.out).hd4 (HA1.out).hd).mono ?_; rintro e _ ⟨rfl, q2, rfl⟩; have hA := (HA1.out).drewN q2; have k0' := hA.hd5.c0; have k1' := hA.hd5.c1; have HA2 := hid hA; clear hA)
        | (go_at_call 13; refine (sHNumbers_c n _ fs _ ((HS6.out.drewN 1)).hd5).mono ?_; rintro e wa1 ⟨va, rfl, hN⟩; have hA := ((HS6.out.drewN 1)).call1 hN; have k0' := hA.hd5.c0; have k1' := hA.hd5.c1; have HA1 := hid hA; clear hA hN))
    have R8 := HA13
    clear k0' k1'
    have k0' := R8.out.hd8.c0
    have k1' := R8.out.hd8.c1
    have la := R8.out.hd7.iln tI
    have lg := R8.out.hd5.iln tI
    by_cases h0 : (hB n fs).length = 0
    · have q0 : (((hB n fs).length : Int) == 0) = true := by rw [h0]; rfl
      have et : tb = 0 := by rw [← HTB.out, topB, h0]; have : hB n fs = [] := List.eq_nil_of_length_eq_zero h0; rw [this]; exact gi_nil _
      have eg : (gB n fs).length = 0 := by rw [gB, if_pos h0]; rfl
      rw [eg] at lg
      subst et
      clear qtb h0 eg
      go_wp2_with fail
      refine (TopH_c n _ fs _ R8.out.hd9).mono ?_
      rw [HTB.out]
      rintro e w7 ⟨rfl, hN⟩
      have HB7 := hid (R8.out.quiet hN)
      clear hN
      go_wp2_with fail
      go_ret
      exact ⟨rfl, HB7.out.bel⟩
    · obtain ⟨e1, e2, e3, e4⟩ := law_h n fs h0
      have hl7 := hB_len n fs
      have htr := hB_rng n fs ((hB n fs).length - 1)
      obtain ⟨eu, heu⟩ : ∃ eu, eulB n fs = eu := ⟨_, rfl⟩
      rw [heu, HTB.out] at e3
      have htr' : -28672 ≤ tb ∧ tb ≤ 28672 := by rw [← HTB.out]; exact htr
      have HV : Hid (∀ w' : World, Rd w' vh (ints (hB n fs)) → w'.cell? (adr vh 0) = some (.int .i64 1)) := fun w' h => by have := h.intCell 0 (by omega); rwa [e2] at this
      have HI : Hid (∀ w' : World, (Instr.indexAt 24 vh (.int .i64 0)).run Try.prog w' = .ok (.pointer (some (adr vh 0))) w') := fun w' => R8.out.hd7.iix tI 0 (by omega) w'
      obtain ⟨L, hL⟩ : ∃ L, (hB n fs).length = L := ⟨_, rfl⟩
      rw [hL] at la h0 hl7 e3 e4
      obtain ⟨r, hr⟩ : ∃ r, ((L : Int) - 1) % 2 = r := ⟨_, rfl⟩
      have hr2 : Int.tmod ((L : Int) - 1) 2 = r := by rw [Int.tmod_eq_emod_of_nonneg (by omega)]; exact hr
      obtain ⟨s, hs⟩ : ∃ s, ((L : Int) - 1) / 2 = s := ⟨_, rfl⟩
      have hs2 : Int.tdiv ((L : Int) - 1) 2 = s := by rw [Int.tdiv_eq_ediv_of_nonneg (by omega)]; exact hs
      have r01 : 0 ≤ r ∧ r ≤ 1 := by omega
      have s03 : 0 ≤ s ∧ s ≤ 3 := by omega
      obtain ⟨r0, r1⟩ := r01
      obtain ⟨s0, s3⟩ := s03
      rw [hr] at e3
      rw [hs] at e4
      rw [e4] at lg
      have gm : wrap64 ((2 * r - 1) * eu) = tb := by rw [← e3]; exact IntWalk.wrap64_in _ (by omega)
      have gm2 : IntKind.i64.wrap ((2 * r - 1) * eu) = tb := by rw [← e3]; exact IntWalk.i64_in _ (by omega)
      have HE1 := hid e1
      have HEU := hid heu
      have f1 := HI.out
      have k2' := HV.out _ R8.out.hd7
      have q0 : ((L : Int) == 0) = false := by rw [beq_eq_false_iff_ne]; omega
      clear e1 e2 e3 e4 htr htr' heu hL
      have gs1 : IntKind.i64.wrap (s + 1) = s + 1 := IntWalk.i64_in _ (by omega)
      have gs2 : IntKind.i64.wrap s = s := IntWalk.i64_in _ (by omega)
      go_wp2_with fail
      go_region_held3 (fun w' => w'.cell? ⟨w1.heap.size, 0, none⟩ = some (.int .i64 n) ∧ w'.cell? ⟨w1.heap.size, 1, none⟩ = some (.slice p l c) ∧ w'.cell? (adr vh 0) = some (.int .i64 1)) (first | go_keep | exact ⟨k0', k1', k2'⟩)
        (first
          | (go_at_call 24; refine (EulerOf_c n _ fs _ (HA24.out).hd11).mono ?_; rw [HEU.out]; rintro e wa25 ⟨rfl, hN⟩; have hA := (HA24.out).quiet hN; have k0' := hA.hd10.c0; have k1' := hA.hd10.c1; have k2' := HV.out _ hA.hd9; have HA25 := hid hA; clear hA hN)
          | (go_at_call 21; refine (TopH_c n _ fs _ (HA23.out).hd11).mono ?_; rw [HTB.out]; rintro e wa24 ⟨rfl, hN⟩; have hA := (HA23.out).quiet hN; have k0' := hA.hd10.c0; have k1' := hA.hd10.c1; have k2' := HV.out _ hA.hd9; have HA24 := hid hA; clear hA hN)
          | (go_at_call 12; refine (same_c _ _ (fvB n fs) _ (HA22.out).hd2 (HA22.out).hd).mono ?_; rintro e _ ⟨rfl, q23, rfl⟩; have hA := (HA22.out).drewN q23; have k0' := hA.hd10.c0; have k1' := hA.hd10.c1; have k2' := HV.out _ hA.hd9; have HA23 := hid hA; clear hA)
          | (go_at_call 23; refine (sFaceCounts_c n _ fs _ (HA21.out).hd10).mono ?_; rintro e wa22 ⟨vf, rfl, hN⟩; have hA := (HA21.out).call1 hN; have k0' := hA.hd10.c0; have k1' := hA.hd10.c1; have k2' := HV.out _ hA.hd9; have HA22 := hid hA; clear hA hN)
          | (go_at_call 14; refine (CountsFromH_c _ (hB n fs) _ ((R8.out.drewN 1)).hd7).mono ?_; rw [HE1.out]; rintro e wa21 ⟨ve, rfl, hN⟩; have hA := ((R8.out.drewN 1)).call1 hN; have k0' := hA.hd9.c0; have k1' := hA.hd9.c1; have k2' := HV.out _ hA.hd8; have HA21 := hid hA; clear hA hN))
      all_goals
        clear gm gm2 gs1 gs2
        go_wp2_with fail
        go_ret
        exact ⟨rfl, HA25.out.bel⟩

theorem own : ownKnob Try.prog.godebug = none := by kernel_rfl
theorem laidOut : laidOutB Try.prog = true := by kernel_rfl

set_option maxRecDepth 100000 in
theorem lifted (os : Os) (started : os.Started) (H : Type) (enc : TypeId × Value → H) :
    ReturnsInHanded {} Try.checked os 3 .any (Rows.fnHNumbersSpec.pre6 enc Try.prog Try.f3 Rows.fnHNumbersRow.domain false) (Rows.fnHNumbersSpec.post enc Try.prog Try.f3 false true false false) := by
  refine returnsInHanded_of_change (C := Try.checked) own started (by kernel_rfl) Try.func3
    (ChangeSpec.witness6 (enc := enc) (C := Try.checked) false ⟨#[], #[.slice none 0 0], []⟩ 8 (by kernel_rfl) (by kernel_rfl) (by kernel_rfl) (by kernel_rfl)) ?_
  intro W base args ds gs before hval0 hW hcnd _
  have hval : ∀ (j : Nat) t v, Try.f3.params[j]? = some t → args[j]? = some v → Value.okWide Try.prog W .any base t v := hval0
  have hW' := hW
  obtain ⟨p, q, hA0, hV, rfl, hfz, hnd⟩ := hW
  have hA : DataW.TrodAll enc Try.prog W 0 (fun _ => true) true Try.f3.params.toList args.toList ds p := hA0
  rw [Try.params3] at hA hval
  obtain ⟨v0, vs0, d0, ds0, p0, q0, hargs, rfl, rfl, h0, r0⟩ := trodAll_cons hA
  obtain ⟨rfl, rfl, rfl⟩ := trodAll_nil r0
  obtain rfl : args = #[v0] := by cases args; simp_all
  obtain ⟨rfl, rfl⟩ := trodVars_none hV
  obtain ⟨s0, len0, cap0, rfl⟩ := okWide_slice Try.underlying22 (hval 0 22 v0 rfl rfl)
  have k0 := h0
  have lt0 : ∀ x ∈ p0, x.block < W.heap.size := by obtain ⟨m, hm⟩ := k0; exact DataW.trod_lt m _ _ _ hm
  obtain ⟨z0, g0⟩ : ∃ zs, Rd W (.slice s0 len0 cap0) (byts zs) := by
    obtain ⟨fuel, hf⟩ := h0
    rcases open_ints Try.underlying22 Try.underlying5 (by kernel_rfl) hf with ⟨hcs, _⟩ | ⟨x, l, c, zs, hcs, _, hl, hm, hz, _, hcell, _⟩
    · simp [Value.cells] at hcs
      obtain ⟨rfl, rfl, rfl⟩ := hcs
      exact ⟨[], .inl ⟨rfl, rfl⟩⟩
    · simp [Value.cells] at hcs
      obtain ⟨rfl, rfl, rfl⟩ := hcs
      exact ⟨_, rdB_of_open hl hm (by simp at hz; omega) hcell⟩
  clear hA0 hval0
  refine (law_c _ z0 W g0).mono fun e W' ⟨he, bel⟩ => ?_
  subst he
  exact ⟨_, rfl, _, _, _, [], _, [], hW', trodAll_mk1 (shut_bool Try.underlying4 _), (trodAll_cons_mk (Below.trod laidOut (by kernel_rfl) (of_decide_eq_true (by kernel_rfl)) k0 bel lt0) trodAll_mk0), rfl, bel.frame _, fun h => by cases h⟩

theorem over : Rows.fnHNumbersRow.holds Try.pinned (OpenSpec.ofChange Rows.fnHNumbersSpec) :=
  OpenClaim.holds_of_wide 3 Try.f3 rfl rfl rfl rfl rfl rfl rfl ⟨rfl, rfl, rfl, rfl, rfl⟩ rfl rfl rfl rfl rfl (by kernel_rfl) Try.func3 (by kernel_rfl)
    (of_decide_eq_true (by kernel_rfl)) (by unfold Func.isWrapper; first | (rw [if_pos (by decide +kernel)]; kernel_rfl) | (rw [if_neg (by decide +kernel)]; exact ⟨rfl, rfl⟩))
    (fun os started H enc _ => lifted os started H enc)

theorem proved : Rows.FnHNumbersSaid :=
  over
end Go.Proofs.Ytoaggenighfhpaa.fnHNumbers
