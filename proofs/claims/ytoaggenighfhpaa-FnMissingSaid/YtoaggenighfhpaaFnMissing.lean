/-
  The statement Rows.FnMissingSaid: the law answers true at every input, and its arguments read afterwards as before. No further condition.
-/
import Derived.Test.YtoaggenighfhpaaMDraw
import Derived.ProofKit
import Derived.OpenShut
import Derived.ChangeOld
namespace Go.Proofs.Ytoaggenighfhpaa.fnMissing
open Go.ChangeShapes Go.WideShapes Go.ChangeAt Go.RowKit
set_option linter.unusedVariables false

set_option maxHeartbeats 40000000 in
set_option maxRecDepth 100000 in
theorem law_c (u : Value) (z : List Int) (w : World) (g0 : Rd w u (byts z)) : Calls Try.prog 4 #[u] w fun e w' => e = .returned (.bool true) ∧ Below w.heap.size w w' := by
  by_cases hbig : 1048576 < (z.length : Int)
  · go_enter Try.func4, Try.ntmps4
    go_wp2_with (go_at_call 6; refine (big_c u z _ g0).mono ?_; rw [decide_eq_true hbig]; rintro e w' ⟨rfl, rfl⟩)
    go_ret
    exact ⟨rfl, Below.refl _ _⟩
  · have HS := hid (St.start w)
    have G := hid g0
    have HBG := hid (decide_eq_false hbig)
    clear hbig
    go_enter Try.func4, Try.ntmps4
    go_wp2_with (go_at_call 6; refine (big_c u z _ g0).mono ?_; rw [HBG.out]; rintro e w' ⟨rfl, rfl⟩)
    refine (DrawMissingSets_c u z _ g0).mono ?_
    rintro e w1 ⟨n, v, fs, rfl, _, hN⟩
    obtain ⟨p, l, c, rfl⟩ := hN.hd.form
    have hS1 := (HS.out.call1 hN).boxAt n (.slice p l c) 26 (H := w1.heap.size) rfl
    have c0 := hS1.hd.c0
    have c1 := hS1.hd.c1
    have HS1 := hid hS1
    clear hN hS1
    unfold cx
    obtain ⟨ok, hok⟩ : ∃ ok, isC n fs = ok := ⟨_, rfl⟩
    have HOK := hid hok
    have qok : (ok != ok) = false := by simp
    obtain ⟨GL, hGL⟩ : ∃ GL, resL ok (flagL n fs) = GL := ⟨_, rfl⟩
    have HGL := hid hGL
    obtain ⟨GN, hGN⟩ : ∃ GN, resN ok n = GN := ⟨_, rfl⟩
    have HGN := hid hGN
    obtain ⟨ML, hML⟩ : ∃ ML, missB n fs = ML := ⟨_, rfl⟩
    have HML := hid hML
    have hml : ML.length ≤ 448 := by rw [← hML]; exact missB_len n fs
    obtain ⟨lb, hlb⟩ : ∃ lb, lastB (missB n fs) = lb := ⟨_, rfl⟩
    have HLB := hid hlb
    have qlb : (lb != lb) = false := by simp
    obtain ⟨cu, hcu⟩ : ∃ cu, cuB n fs = cu := ⟨_, rfl⟩
    have HCU := hid hcu
    have qcu : (cu != cu) = false := by simp
    have HM1 : Hid (∀ w1, Rd w1 (.slice p l c) (ints fs) → Calls Try.prog 26 #[cx n (.slice p l c)] w1 fun e w' => ∃ v, e = .returned v ∧ St w1 w' [⟨v, 3, ints ML⟩]) := fun w1 h => by have := MissingSets_c n _ fs w1 h; rwa [hML] at this
    have HM2 : Hid (∀ w1, Rd w1 (.slice p l c) (ints fs) → Calls Try.prog 33 #[cx n (.slice p l c)] w1 fun e w' => ∃ v, e = .returned v ∧ St w1 w' [⟨v, 3, ints ML⟩]) := fun w1 h => by have := sMissingSets_c n _ fs w1 h; rwa [hML] at this
    have HG1 : Hid (∀ w1, Rd w1 (.slice p l c) (ints fs) → Calls Try.prog 31 #[cx n (.slice p l c)] w1 fun e w' => ∃ v, e = .returned (.tuple #[cx GN v, .bool ok]) ∧ St w1 w' [⟨v, 3, ints GL⟩]) := fun w1 h => by have := FlagOf_c n _ fs w1 h; rwa [hok, hGN, hGL] at this
    have HG2 : Hid (∀ w1, Rd w1 (.slice p l c) (ints fs) → Calls Try.prog 32 #[cx n (.slice p l c)] w1 fun e w' => ∃ v, e = .returned (.tuple #[cx GN v, .bool ok]) ∧ St w1 w' [⟨v, 3, ints GL⟩]) := fun w1 h => by have := sFlagOf_c n _ fs w1 h; rwa [hok, hGN, hGL] at this
    clear hok hGL hGN hML hlb hcu
    unfold cx at HM1 HM2 HG1 HG2
    go_wp2_with fail
    refine (HM1.out _ HS1.out.hd2).mono ?_
    rintro e w2 ⟨vl, rfl, hN⟩
    have hS2 := HS1.out.call1 hN
    have ll := hS2.hd.iln tI
    have HS2 := hid hS2
    clear hN hS2 c0 c1
    go_wp2_with fail
    refine (DrawFromMissing_c u z _ (HS2.out.old G.out)).mono ?_
    rintro e w3 ⟨m, vs, xs, rfl, _, hN⟩
    have HS3 := hid (HS2.out.call1 hN)
    clear hN
    obtain ⟨one, hone⟩ : ∃ one, areB m xs = one := ⟨_, rfl⟩
    have HONE := hid hone
    have qone : (one != one) = false := by simp
    obtain ⟨AL, hAL⟩ : ∃ AL, resL one (fromL m xs) = AL := ⟨_, rfl⟩
    have HAL := hid hAL
    obtain ⟨AN, hAN⟩ : ∃ AN, resN one m = AN := ⟨_, rfl⟩
    have HAN := hid hAN
    have HF1 : Hid (∀ w1, Rd w1 vs (ints xs) → Calls Try.prog 28 #[.int .i64 m, vs] w1 fun e w' => ∃ v, e = .returned (.tuple #[cx AN v, .bool one]) ∧ St w1 w' [⟨v, 3, ints AL⟩]) := fun w1 h => by have := FromMissing_c m _ xs w1 h; rwa [hone, hAN, hAL] at this
    have HF2 : Hid (∀ w1, Rd w1 vs (ints xs) → Calls Try.prog 29 #[.int .i64 m, vs] w1 fun e w' => ∃ v, e = .returned (.tuple #[cx AN v, .bool one]) ∧ St w1 w' [⟨v, 3, ints AL⟩]) := fun w1 h => by have := sFromMissing_c m _ xs w1 h; rwa [hone, hAN, hAL] at this
    clear hone hAL hAN
    unfold cx at HF1 HF2
    go_wp2_with fail
    refine (HF1.out _ HS3.out.hd).mono ?_
    rintro e w4 ⟨va, rfl, hN⟩
    obtain ⟨pa, la, ca, rfl⟩ := hN.hd.form
    have HS4 := hid ((HS3.out.call1 hN).boxAt AN (.slice pa la ca) 26 (H := w4.heap.size) rfl)
    clear hN
    go_wp2_with fail
    refine (HF2.out _ HS4.out.hd3).mono ?_
    rintro e w5 ⟨vb, rfl, hN⟩
    obtain ⟨pb, lb', cb, rfl⟩ := hN.hd.form
    have HS5 := hid ((HS4.out.call1 hN).boxAt AN (.slice pb lb' cb) 26 (H := w5.heap.size) rfl)
    clear hN
    go_wp2_with fail
    refine (DrawIsFlag_c u z _ (HS5.out.old G.out)).mono ?_
    rintro e w6 ⟨nf, vf, ff, rfl, _, hN⟩
    obtain ⟨pf, lf, cf, rfl⟩ := hN.hd.form
    have hS6 := (HS5.out.call1 hN).boxAt nf (.slice pf lf cf) 26 (H := w6.heap.size) rfl
    have c0 := hS6.hd9.c0
    have c1 := hS6.hd9.c1
    have HS6 := hid hS6
    clear hN hS6
    obtain ⟨fb, hfb⟩ : ∃ fb, flagB nf ff = fb := ⟨_, rfl⟩
    have HFB := hid hfb
    have qfb : (fb != fb) = false := by simp
    clear hfb
    unfold cx
    go_wp2_with fail
    refine (HG1.out _ HS6.out.hd10).mono ?_
    rintro e w7 ⟨vg, rfl, hN⟩
    obtain ⟨pg, lg, cg, rfl⟩ := hN.hd.form
    have hS7 := (HS6.out.call1 hN).boxAt GN (.slice pg lg cg) 26 (H := w7.heap.size) rfl
    clear c0 c1
    have c0 := hS7.hd11.c0
    have c1 := hS7.hd11.c1
    have HS7 := hid hS7
    clear hN hS7
    go_wp2_with fail
    refine (HG2.out _ HS7.out.hd12).mono ?_
    rintro e w8 ⟨vh, rfl, hN⟩
    obtain ⟨ph, lh, chh, rfl⟩ := hN.hd.form
    have hS8 := (HS7.out.call1 hN).boxAt GN (.slice ph lh chh) 26 (H := w8.heap.size) rfl
    clear c0 c1
    have k0 := (((((((((((((hS8).tail).tail).tail).tail).tail).tail).tail).tail).tail).tail).tail).tail).hd.c0
    have k1 := (((((((((((((hS8).tail).tail).tail).tail).tail).tail).tail).tail).tail).tail).tail).tail).hd.c1
    have k2 := (((((((((hS8).tail).tail).tail).tail).tail).tail).tail).tail).hd.c0
    have k3 := (((((((((hS8).tail).tail).tail).tail).tail).tail).tail).tail).hd.c1
    have k4 := (((((((hS8).tail).tail).tail).tail).tail).tail).hd.c0
    have k5 := (((((((hS8).tail).tail).tail).tail).tail).tail).hd.c1
    have k6 := (((((hS8).tail).tail).tail).tail).hd.c0
    have k7 := (((((hS8).tail).tail).tail).tail).hd.c1
    have k8 := (((hS8).tail).tail).hd.c0
    have k9 := (((hS8).tail).tail).hd.c1
    have k10 := (hS8).hd.c0
    have k11 := (hS8).hd.c1
    have HS8 := hid hS8
    clear hN hS8
    go_wp2_with fail
    go_region_held3 (fun w' => w'.cell? ⟨w1.heap.size, 0, none⟩ = some (.int .i64 (n)) ∧ w'.cell? ⟨w1.heap.size, 1, none⟩ = some (.slice p l c) ∧ w'.cell? ⟨w4.heap.size, 0, none⟩ = some (.int .i64 (AN)) ∧ w'.cell? ⟨w4.heap.size, 1, none⟩ = some (.slice pa la ca) ∧ w'.cell? ⟨w5.heap.size, 0, none⟩ = some (.int .i64 (AN)) ∧ w'.cell? ⟨w5.heap.size, 1, none⟩ = some (.slice pb lb' cb) ∧ w'.cell? ⟨w6.heap.size, 0, none⟩ = some (.int .i64 (nf)) ∧ w'.cell? ⟨w6.heap.size, 1, none⟩ = some (.slice pf lf cf) ∧ w'.cell? ⟨w7.heap.size, 0, none⟩ = some (.int .i64 (GN)) ∧ w'.cell? ⟨w7.heap.size, 1, none⟩ = some (.slice pg lg cg) ∧ w'.cell? ⟨w8.heap.size, 0, none⟩ = some (.int .i64 (GN)) ∧ w'.cell? ⟨w8.heap.size, 1, none⟩ = some (.slice ph lh chh)) (first | go_keep | exact ⟨k0, k1, k2, k3, k4, k5, k6, k7, k8, k9, k10, k11⟩)
      (first
        | (go_at_call 40; refine (sCompleteUpTo_c n _ fs _ ((((((((((((((((HA9.out).tail).tail).tail).tail).tail).tail).tail).tail).tail).tail).tail).tail).tail).tail).hd)).mono ?_; rw [HCU.out]; rintro e wa10 ⟨rfl, hN⟩; have hA := (HA9.out).quiet hN; have k0 := ((((((((((((((hA).tail).tail).tail).tail).tail).tail).tail).tail).tail).tail).tail).tail).tail).hd.c0; have k1 := ((((((((((((((hA).tail).tail).tail).tail).tail).tail).tail).tail).tail).tail).tail).tail).tail).hd.c1; have k2 := ((((((((((hA).tail).tail).tail).tail).tail).tail).tail).tail).tail).hd.c0; have k3 := ((((((((((hA).tail).tail).tail).tail).tail).tail).tail).tail).tail).hd.c1; have k4 := ((((((((hA).tail).tail).tail).tail).tail).tail).tail).hd.c0; have k5 := ((((((((hA).tail).tail).tail).tail).tail).tail).tail).hd.c1; have k6 := ((((((hA).tail).tail).tail).tail).tail).hd.c0; have k7 := ((((((hA).tail).tail).tail).tail).tail).hd.c1; have k8 := ((((hA).tail).tail).tail).hd.c0; have k9 := ((((hA).tail).tail).tail).hd.c1; have k10 := ((hA).tail).hd.c0; have k11 := ((hA).tail).hd.c1; have HA10 := hid hA; clear hA hN)
        | (go_at_call 39; refine (CompleteUpTo_c n _ fs _ ((((((((((((((((HA8.out).tail).tail).tail).tail).tail).tail).tail).tail).tail).tail).tail).tail).tail).tail).hd)).mono ?_; rw [HCU.out]; rintro e wa9 ⟨rfl, hN⟩; have hA := (HA8.out).quiet hN; have k0 := ((((((((((((((hA).tail).tail).tail).tail).tail).tail).tail).tail).tail).tail).tail).tail).tail).hd.c0; have k1 := ((((((((((((((hA).tail).tail).tail).tail).tail).tail).tail).tail).tail).tail).tail).tail).tail).hd.c1; have k2 := ((((((((((hA).tail).tail).tail).tail).tail).tail).tail).tail).tail).hd.c0; have k3 := ((((((((((hA).tail).tail).tail).tail).tail).tail).tail).tail).tail).hd.c1; have k4 := ((((((((hA).tail).tail).tail).tail).tail).tail).tail).hd.c0; have k5 := ((((((((hA).tail).tail).tail).tail).tail).tail).tail).hd.c1; have k6 := ((((((hA).tail).tail).tail).tail).tail).hd.c0; have k7 := ((((((hA).tail).tail).tail).tail).tail).hd.c1; have k8 := ((((hA).tail).tail).tail).hd.c0; have k9 := ((((hA).tail).tail).tail).hd.c1; have k10 := ((hA).tail).hd.c0; have k11 := ((hA).tail).hd.c1; have HA9 := hid hA; clear hA hN)
        | (go_at_call 38; refine (sGreatestMissing_c n _ fs _ ((((((((((((((((HA7.out).tail).tail).tail).tail).tail).tail).tail).tail).tail).tail).tail).tail).tail).tail).hd)).mono ?_; rw [HLB.out]; rintro e wa8 ⟨rfl, hN⟩; have hA := (HA7.out).quiet hN; have k0 := ((((((((((((((hA).tail).tail).tail).tail).tail).tail).tail).tail).tail).tail).tail).tail).tail).hd.c0; have k1 := ((((((((((((((hA).tail).tail).tail).tail).tail).tail).tail).tail).tail).tail).tail).tail).tail).hd.c1; have k2 := ((((((((((hA).tail).tail).tail).tail).tail).tail).tail).tail).tail).hd.c0; have k3 := ((((((((((hA).tail).tail).tail).tail).tail).tail).tail).tail).tail).hd.c1; have k4 := ((((((((hA).tail).tail).tail).tail).tail).tail).tail).hd.c0; have k5 := ((((((((hA).tail).tail).tail).tail).tail).tail).tail).hd.c1; have k6 := ((((((hA).tail).tail).tail).tail).tail).hd.c0; have k7 := ((((((hA).tail).tail).tail).tail).tail).hd.c1; have k8 := ((((hA).tail).tail).tail).hd.c0; have k9 := ((((hA).tail).tail).tail).hd.c1; have k10 := ((hA).tail).hd.c0; have k11 := ((hA).tail).hd.c1; have HA8 := hid hA; clear hA hN)
        | (go_at_call 37; refine (GreatestMissing_c n _ fs _ ((((((((((((((((HA6.out).tail).tail).tail).tail).tail).tail).tail).tail).tail).tail).tail).tail).tail).tail).hd)).mono ?_; rw [HLB.out]; rintro e wa7 ⟨rfl, hN⟩; have hA := (HA6.out).quiet hN; have k0 := ((((((((((((((hA).tail).tail).tail).tail).tail).tail).tail).tail).tail).tail).tail).tail).tail).hd.c0; have k1 := ((((((((((((((hA).tail).tail).tail).tail).tail).tail).tail).tail).tail).tail).tail).tail).tail).hd.c1; have k2 := ((((((((((hA).tail).tail).tail).tail).tail).tail).tail).tail).tail).hd.c0; have k3 := ((((((((((hA).tail).tail).tail).tail).tail).tail).tail).tail).tail).hd.c1; have k4 := ((((((((hA).tail).tail).tail).tail).tail).tail).tail).hd.c0; have k5 := ((((((((hA).tail).tail).tail).tail).tail).tail).tail).hd.c1; have k6 := ((((((hA).tail).tail).tail).tail).tail).hd.c0; have k7 := ((((((hA).tail).tail).tail).tail).tail).hd.c1; have k8 := ((((hA).tail).tail).tail).hd.c0; have k9 := ((((hA).tail).tail).tail).hd.c1; have k10 := ((hA).tail).hd.c0; have k11 := ((hA).tail).hd.c1; have HA7 := hid hA; clear hA hN)
        | (go_at_call 34; refine (sameCx_c GN _ _ GL _ ((((((HA5.out).tail).tail).tail).tail).hd) ((((HA5.out).tail).tail).hd)).mono ?_; rintro e wa6 ⟨rfl, hN⟩; have hA := (HA5.out).quiet hN; have k0 := ((((((((((((((hA).tail).tail).tail).tail).tail).tail).tail).tail).tail).tail).tail).tail).tail).hd.c0; have k1 := ((((((((((((((hA).tail).tail).tail).tail).tail).tail).tail).tail).tail).tail).tail).tail).tail).hd.c1; have k2 := ((((((((((hA).tail).tail).tail).tail).tail).tail).tail).tail).tail).hd.c0; have k3 := ((((((((((hA).tail).tail).tail).tail).tail).tail).tail).tail).tail).hd.c1; have k4 := ((((((((hA).tail).tail).tail).tail).tail).tail).tail).hd.c0; have k5 := ((((((((hA).tail).tail).tail).tail).tail).tail).tail).hd.c1; have k6 := ((((((hA).tail).tail).tail).tail).tail).hd.c0; have k7 := ((((((hA).tail).tail).tail).tail).tail).hd.c1; have k8 := ((((hA).tail).tail).tail).hd.c0; have k9 := ((((hA).tail).tail).tail).hd.c1; have k10 := ((hA).tail).hd.c0; have k11 := ((hA).tail).hd.c1; have HA6 := hid hA; clear hA hN)
        | (go_at_call 36; refine (sIsFlag_c nf _ ff _ ((((((((HA4.out).tail).tail).tail).tail).tail).tail).hd)).mono ?_; rw [HFB.out]; rintro e wa5 ⟨rfl, hN⟩; have hA := (HA4.out).quiet hN; have k0 := ((((((((((((((hA).tail).tail).tail).tail).tail).tail).tail).tail).tail).tail).tail).tail).tail).hd.c0; have k1 := ((((((((((((((hA).tail).tail).tail).tail).tail).tail).tail).tail).tail).tail).tail).tail).tail).hd.c1; have k2 := ((((((((((hA).tail).tail).tail).tail).tail).tail).tail).tail).tail).hd.c0; have k3 := ((((((((((hA).tail).tail).tail).tail).tail).tail).tail).tail).tail).hd.c1; have k4 := ((((((((hA).tail).tail).tail).tail).tail).tail).tail).hd.c0; have k5 := ((((((((hA).tail).tail).tail).tail).tail).tail).tail).hd.c1; have k6 := ((((((hA).tail).tail).tail).tail).tail).hd.c0; have k7 := ((((((hA).tail).tail).tail).tail).tail).hd.c1; have k8 := ((((hA).tail).tail).tail).hd.c0; have k9 := ((((hA).tail).tail).tail).hd.c1; have k10 := ((hA).tail).hd.c0; have k11 := ((hA).tail).hd.c1; have HA5 := hid hA; clear hA hN)
        | (go_at_call 35; refine (IsFlag_c nf _ ff _ ((((((((HA3.out).tail).tail).tail).tail).tail).tail).hd)).mono ?_; rw [HFB.out]; rintro e wa4 ⟨rfl, hN⟩; have hA := (HA3.out).quiet hN; have k0 := ((((((((((((((hA).tail).tail).tail).tail).tail).tail).tail).tail).tail).tail).tail).tail).tail).hd.c0; have k1 := ((((((((((((((hA).tail).tail).tail).tail).tail).tail).tail).tail).tail).tail).tail).tail).tail).hd.c1; have k2 := ((((((((((hA).tail).tail).tail).tail).tail).tail).tail).tail).tail).hd.c0; have k3 := ((((((((((hA).tail).tail).tail).tail).tail).tail).tail).tail).tail).hd.c1; have k4 := ((((((((hA).tail).tail).tail).tail).tail).tail).tail).hd.c0; have k5 := ((((((((hA).tail).tail).tail).tail).tail).tail).tail).hd.c1; have k6 := ((((((hA).tail).tail).tail).tail).tail).hd.c0; have k7 := ((((((hA).tail).tail).tail).tail).tail).hd.c1; have k8 := ((((hA).tail).tail).tail).hd.c0; have k9 := ((((hA).tail).tail).tail).hd.c1; have k10 := ((hA).tail).hd.c0; have k11 := ((hA).tail).hd.c1; have HA4 := hid hA; clear hA hN)
        | (go_at_call 34; refine (sameCx_c AN _ _ AL _ ((((((((((((HA2.out).tail).tail).tail).tail).tail).tail).tail).tail).tail).tail).hd) ((((((((((HA2.out).tail).tail).tail).tail).tail).tail).tail).tail).hd)).mono ?_; rintro e wa3 ⟨rfl, hN⟩; have hA := (HA2.out).quiet hN; have k0 := ((((((((((((((hA).tail).tail).tail).tail).tail).tail).tail).tail).tail).tail).tail).tail).tail).hd.c0; have k1 := ((((((((((((((hA).tail).tail).tail).tail).tail).tail).tail).tail).tail).tail).tail).tail).tail).hd.c1; have k2 := ((((((((((hA).tail).tail).tail).tail).tail).tail).tail).tail).tail).hd.c0; have k3 := ((((((((((hA).tail).tail).tail).tail).tail).tail).tail).tail).tail).hd.c1; have k4 := ((((((((hA).tail).tail).tail).tail).tail).tail).tail).hd.c0; have k5 := ((((((((hA).tail).tail).tail).tail).tail).tail).tail).hd.c1; have k6 := ((((((hA).tail).tail).tail).tail).tail).hd.c0; have k7 := ((((((hA).tail).tail).tail).tail).tail).hd.c1; have k8 := ((((hA).tail).tail).tail).hd.c0; have k9 := ((((hA).tail).tail).tail).hd.c1; have k10 := ((hA).tail).hd.c0; have k11 := ((hA).tail).hd.c1; have HA3 := hid hA; clear hA hN)
        | (go_at_call 12; refine (same_c _ _ ML _ ((((((((((((((HA1.out).tail).tail).tail).tail).tail).tail).tail).tail).tail).tail).tail).tail).hd) ((HA1.out).hd)).mono ?_; rintro e _ ⟨rfl, q2, rfl⟩; have hA := (HA1.out).drewN q2; have k0 := ((((((((((((((hA).tail).tail).tail).tail).tail).tail).tail).tail).tail).tail).tail).tail).tail).hd.c0; have k1 := ((((((((((((((hA).tail).tail).tail).tail).tail).tail).tail).tail).tail).tail).tail).tail).tail).hd.c1; have k2 := ((((((((((hA).tail).tail).tail).tail).tail).tail).tail).tail).tail).hd.c0; have k3 := ((((((((((hA).tail).tail).tail).tail).tail).tail).tail).tail).tail).hd.c1; have k4 := ((((((((hA).tail).tail).tail).tail).tail).tail).tail).hd.c0; have k5 := ((((((((hA).tail).tail).tail).tail).tail).tail).tail).hd.c1; have k6 := ((((((hA).tail).tail).tail).tail).tail).hd.c0; have k7 := ((((((hA).tail).tail).tail).tail).tail).hd.c1; have k8 := ((((hA).tail).tail).tail).hd.c0; have k9 := ((((hA).tail).tail).tail).hd.c1; have k10 := ((hA).tail).hd.c0; have k11 := ((hA).tail).hd.c1; have HA2 := hid hA; clear hA)
        | (go_at_call 33; refine (HM2.out _ ((((((((((((((((HS8.out.drewN 1)).tail).tail).tail).tail).tail).tail).tail).tail).tail).tail).tail).tail).tail).hd)).mono ?_; rintro e wa1 ⟨v1, rfl, hN⟩; have hA := ((HS8.out.drewN 1)).call1 hN; have k0 := ((((((((((((((hA).tail).tail).tail).tail).tail).tail).tail).tail).tail).tail).tail).tail).tail).hd.c0; have k1 := ((((((((((((((hA).tail).tail).tail).tail).tail).tail).tail).tail).tail).tail).tail).tail).tail).hd.c1; have k2 := ((((((((((hA).tail).tail).tail).tail).tail).tail).tail).tail).tail).hd.c0; have k3 := ((((((((((hA).tail).tail).tail).tail).tail).tail).tail).tail).tail).hd.c1; have k4 := ((((((((hA).tail).tail).tail).tail).tail).tail).tail).hd.c0; have k5 := ((((((((hA).tail).tail).tail).tail).tail).tail).tail).hd.c1; have k6 := ((((((hA).tail).tail).tail).tail).tail).hd.c0; have k7 := ((((((hA).tail).tail).tail).tail).tail).hd.c1; have k8 := ((((hA).tail).tail).tail).hd.c0; have k9 := ((((hA).tail).tail).tail).hd.c1; have k10 := ((hA).tail).hd.c0; have k11 := ((hA).tail).hd.c1; have HA1 := hid hA; clear hA hN))
    have R11 := HA10
    all_goals
      cases one with
      | false =>
        go_wp2_with fail
        refine (sIsComplex_c n _ fs _ ((((((((((((((((R11.out).tail).tail).tail).tail).tail).tail).tail).tail).tail).tail).tail).tail).tail).tail).hd)).mono ?_
        rw [HOK.out]
        rintro e wc ⟨rfl, hN⟩
        have hR := R11.out.quiet hN
        clear k0 k1 k2 k3 k4 k5 k6 k7 k8 k9 k10 k11
        have k0 := ((((((((((((((hR).tail).tail).tail).tail).tail).tail).tail).tail).tail).tail).tail).tail).tail).hd.c0
        have k1 := ((((((((((((((hR).tail).tail).tail).tail).tail).tail).tail).tail).tail).tail).tail).tail).tail).hd.c1
        have k2 := ((((hR).tail).tail).tail).hd.c0
        have k3 := ((((hR).tail).tail).tail).hd.c1
        have HR1 := hid hR
        clear hN hR
        cases ok with
        | false =>
          have em : ML = [] := by rw [← HML.out]; exact missB_no HOK.out
          subst em
          go_wp2_with fail
          go_ret
          exact ⟨rfl, HR1.out.bel⟩
        | true =>
          have hC : IsC n fs := isC_iff.1 HOK.out
          have HB : Hid (∀ w1, Rd w1 vl (ints ML) → Calls Try.prog 28 #[.int .i64 n, vl] w1 fun e w' => ∃ v, e = .returned (.tuple #[cx n v, .bool true]) ∧ St w1 w' [⟨v, 3, ints fs⟩]) := fun w1 h => by
            have h2 := FromMissing_c n _ ML w1 h
            have ea : areB n ML = true := by rw [← HML.out]; exact areB_t (miss_areS hC)
            have ef : fromL n ML = fs := by rw [← HML.out]; exact from_miss hC
            rw [ea, ef] at h2
            exact h2
          unfold cx at HB
          have egn : n = GN := HGN.out
          subst egn
          have HFG : Hid (flagB n GL = true) := by show _ = _; rw [← HGL.out]; exact flag_flag hC
          obtain ⟨fc, hfc⟩ : ∃ fc, flagB n fs = fc := ⟨_, rfl⟩
          have HFC := hid hfc
          have HSC : Hid (decide (GL = fs) = fc) := by show _ = _; rw [← HGL.out, ← hfc, flag_same hC]; rfl
          have qfc : (fc != fc) = false := by simp
          have HMS : Hid (∀ j, j < ML.length → (cu < pc (gi ML j) ∧ pc (gi ML j) ≤ lb) ∧ 0 ≤ gi ML j ∧ gi ML j < 64) := fun j hj => by
            have hm : gi ML j ∈ missB n fs := by rw [HML.out, gi_eq ML j hj]; exact List.getElem_mem _
            have h2 := miss_sizes hC hm
            rw [HCU.out, HLB.out] at h2
            exact ⟨h2, missB_rng _ hm⟩
          clear hC hfc
          go_wp2_with fail
          refine (HB.out _ ((((((((((((((HR1.out).tail).tail).tail).tail).tail).tail).tail).tail).tail).tail).tail).tail).hd)).mono ?_
          rintro e wd ⟨vk, rfl, hN⟩
          obtain ⟨pk, lk, ck, rfl⟩ := hN.hd.form
          have hR2 := (HR1.out.call1 hN).boxAt n (.slice pk lk ck) 26 (H := wd.heap.size) rfl
          clear k0 k1 k2 k3
          have k0 := (hR2).hd.c0
          have k1 := (hR2).hd.c1
          have k2 := ((((((((((((((((hR2).tail).tail).tail).tail).tail).tail).tail).tail).tail).tail).tail).tail).tail).tail).tail).hd.c0
          have k3 := ((((((((((((((((hR2).tail).tail).tail).tail).tail).tail).tail).tail).tail).tail).tail).tail).tail).tail).tail).hd.c1
          have k4 := ((((((hR2).tail).tail).tail).tail).tail).hd.c0
          have k5 := ((((((hR2).tail).tail).tail).tail).tail).hd.c1
          have HR2 := hid hR2
          clear hN hR2
          go_wp2_with fail
          go_region_held3 (fun w' => w'.cell? ⟨wd.heap.size, 0, none⟩ = some (.int .i64 (n)) ∧ w'.cell? ⟨wd.heap.size, 1, none⟩ = some (.slice pk lk ck) ∧ w'.cell? ⟨w1.heap.size, 0, none⟩ = some (.int .i64 (n)) ∧ w'.cell? ⟨w1.heap.size, 1, none⟩ = some (.slice p l c) ∧ w'.cell? ⟨w7.heap.size, 0, none⟩ = some (.int .i64 (n)) ∧ w'.cell? ⟨w7.heap.size, 1, none⟩ = some (.slice pg lg cg)) (first | go_keep | exact ⟨k0, k1, k2, k3, k4, k5⟩)
            (first
              | (go_at_call 34; refine (sameCx2_c n _ _ GL fs _ ((((((((HC3.out).tail).tail).tail).tail).tail).tail).hd) ((((((((((((((((((HC3.out).tail).tail).tail).tail).tail).tail).tail).tail).tail).tail).tail).tail).tail).tail).tail).tail).hd)).mono ?_; rw [HSC.out]; rintro e wa4 ⟨rfl, hN⟩; have hA := (HC3.out).quiet hN; have k0 := (hA).hd.c0; have k1 := (hA).hd.c1; have k2 := ((((((((((((((((hA).tail).tail).tail).tail).tail).tail).tail).tail).tail).tail).tail).tail).tail).tail).tail).hd.c0; have k3 := ((((((((((((((((hA).tail).tail).tail).tail).tail).tail).tail).tail).tail).tail).tail).tail).tail).tail).tail).hd.c1; have k4 := ((((((hA).tail).tail).tail).tail).tail).hd.c0; have k5 := ((((((hA).tail).tail).tail).tail).tail).hd.c1; have HC4 := hid hA; clear hA hN)
              | (go_at_call 35; refine (IsFlag_c n _ fs _ ((((((((((((((((((HC2.out).tail).tail).tail).tail).tail).tail).tail).tail).tail).tail).tail).tail).tail).tail).tail).tail).hd)).mono ?_; rw [HFC.out]; rintro e wa3 ⟨rfl, hN⟩; have hA := (HC2.out).quiet hN; have k0 := (hA).hd.c0; have k1 := (hA).hd.c1; have k2 := ((((((((((((((((hA).tail).tail).tail).tail).tail).tail).tail).tail).tail).tail).tail).tail).tail).tail).tail).hd.c0; have k3 := ((((((((((((((((hA).tail).tail).tail).tail).tail).tail).tail).tail).tail).tail).tail).tail).tail).tail).tail).hd.c1; have k4 := ((((((hA).tail).tail).tail).tail).tail).hd.c0; have k5 := ((((((hA).tail).tail).tail).tail).tail).hd.c1; have HC3 := hid hA; clear hA hN)
              | (go_at_call 35; refine (IsFlag_c n _ GL _ ((((((((HC1.out).tail).tail).tail).tail).tail).tail).hd)).mono ?_; rw [HFG.out]; rintro e wa2 ⟨rfl, hN⟩; have hA := (HC1.out).quiet hN; have k0 := (hA).hd.c0; have k1 := (hA).hd.c1; have k2 := ((((((((((((((((hA).tail).tail).tail).tail).tail).tail).tail).tail).tail).tail).tail).tail).tail).tail).tail).hd.c0; have k3 := ((((((((((((((((hA).tail).tail).tail).tail).tail).tail).tail).tail).tail).tail).tail).tail).tail).tail).tail).hd.c1; have k4 := ((((((hA).tail).tail).tail).tail).tail).hd.c0; have k5 := ((((((hA).tail).tail).tail).tail).tail).hd.c1; have HC2 := hid hA; clear hA hN)
              | (go_at_call 34; refine (sameCx_c n _ _ fs _ ((((HR2.out.drewN 1)).tail).hd) (((((((((((((((((((HR2.out.drewN 1)).tail).tail).tail).tail).tail).tail).tail).tail).tail).tail).tail).tail).tail).tail).tail).tail).hd)).mono ?_; rintro e wa1 ⟨rfl, hN⟩; have hA := ((HR2.out.drewN 1)).quiet hN; have k0 := (hA).hd.c0; have k1 := (hA).hd.c1; have k2 := ((((((((((((((((hA).tail).tail).tail).tail).tail).tail).tail).tail).tail).tail).tail).tail).tail).tail).tail).hd.c0; have k3 := ((((((((((((((((hA).tail).tail).tail).tail).tail).tail).tail).tail).tail).tail).tail).tail).tail).tail).tail).hd.c1; have k4 := ((((((hA).tail).tail).tail).tail).tail).hd.c0; have k5 := ((((((hA).tail).tail).tail).tail).tail).hd.c1; have HC1 := hid hA; clear hA hN))
          all_goals
            have hV := ((((((((((((((HC4.out).tail).tail).tail).tail).tail).tail).tail).tail).tail).tail).tail).tail).tail).tail
            have HV := hid hV
            clear hV k0 k1 k2 k3 k4 k5
            go_wp2_with fail
            go_loopw [18] (fun k wr => ∃ (j : Nat), j ≤ ML.length ∧ k = .int .i64 j ∧ St w wr [⟨vl, 3, ints ML⟩, ⟨bx w1.heap.size, 26, [.int .i64 n, .slice p l c]⟩, ⟨.slice p l c, 3, ints fs⟩]) (fun k _ => ML.length - (intOf k).toNat)
            case atStart => exact ⟨0, Nat.zero_le _, rfl, HV.out⟩
            case round =>
              obtain ⟨j, hj, rfl, hS⟩ := hrel
              have HJ := hid hS
              by_cases hlt : j < ML.length
              · have f1 := hS.hd.iix tI j hlt
                have f2 := hS.hd.intCell j hlt
                have k0 := hS.hd2.c0
                have k1 := hS.hd2.c1
                obtain ⟨⟨m1, m2⟩, m3, m4⟩ := HMS.out j hlt
                obtain ⟨s, hs⟩ : ∃ s, pc (gi ML j) = s := ⟨_, rfl⟩
                rw [hs] at m1 m2
                have HSZ : Hid (∀ w : World, Calls Try.prog 43 #[.int .i64 (gi ML j)] w fun e w' => e = .returned (.int .i64 s) ∧ w = w') := fun w => by rw [← hs]; exact sSizeOf_c _ w m3 m4
                have q1 : decide (s ≤ cu) = false := decide_eq_false (by omega)
                have q2 : decide (lb < s) = false := decide_eq_false (by omega)
                clear hS hs
                go_wp2_with fail
                go_region_held3 (fun w' => w'.cell? ⟨w1.heap.size, 0, none⟩ = some (.int .i64 n) ∧ w'.cell? ⟨w1.heap.size, 1, none⟩ = some (.slice p l c) ∧ w'.cell? (adr vl j) = some (.int .i64 (gi ML j))) (first | go_keep | exact ⟨k0, k1, f2⟩)
                  (first
                    | (go_at_call 37; refine (GreatestMissing_c n _ fs _ HE1.out.hd3).mono ?_; rw [HLB.out]; rintro e wf ⟨rfl, hN⟩; have hA := HE1.out.quiet hN; have k0 := hA.hd2.c0; have k1 := hA.hd2.c1; have f2 := hA.hd.intCell j hlt; have HE2 := hid hA; clear hA hN)
                    | (go_at_call 39; refine (CompleteUpTo_c n _ fs _ (HJ.out.drewN 1).hd3).mono ?_; rw [HCU.out]; rintro e we ⟨rfl, hN⟩; have hA := (HJ.out.drewN 1).quiet hN; have k0 := hA.hd2.c0; have k1 := hA.hd2.c1; have f2 := hA.hd.intCell j hlt; have HE1 := hid hA; clear hA hN)
                    | (go_at_call 43; refine (HSZ.out _).mono ?_; rintro e w' ⟨rfl, rfl⟩))
                all_goals
                  go_wp2_with fail
                  go_roundw
                  case rel => exact ⟨j + 1, by omega, by go_num, HE2.out⟩
                  case measure => simp [intOf]; omega
              · clear hS
                go_wp2_with fail
                go_ret
                exact ⟨rfl, HJ.out.bel⟩
      | true =>
        have hA := areB_iff.1 HONE.out
        have EMN : Hid (missB AN AL = minL (mem xs)) := by show _ = _; rw [← HAN.out, ← HAL.out]; exact miss_from hA
        have HFP : Hid (fineP xs) := hA.rng
        clear hA
        go_wp2_with fail
        refine (MissingSets_c AN _ AL _ ((((((((((((R11.out).tail).tail).tail).tail).tail).tail).tail).tail).tail).tail).hd)).mono ?_
        rw [EMN.out]
        rintro e wt1 ⟨y1, rfl, hN⟩
        have HT1 := hid (R11.out.call1 hN)
        clear hN
        go_wp2_with fail
        refine (MinimalSets_c _ xs _ ((((((((((((((HT1.out).tail).tail).tail).tail).tail).tail).tail).tail).tail).tail).tail).tail).hd) HFP.out).mono ?_
        rintro e wt2 ⟨y2, rfl, hN⟩
        have HT2 := hid (HT1.out.call1 hN)
        clear hN
        go_wp2_with fail
        refine (same_c _ _ (minL (mem xs)) _ HT2.out.hd2 HT2.out.hd).mono ?_
        rintro e _ ⟨rfl, qt, rfl⟩
        have hT3 := (HT2.out.tail.tail).drewN qt
        clear k0 k1 k2 k3 k4 k5 k6 k7 k8 k9 k10 k11
        have k0 := ((((((((((((((hT3).tail).tail).tail).tail).tail).tail).tail).tail).tail).tail).tail).tail).tail).hd.c0
        have k1 := ((((((((((((((hT3).tail).tail).tail).tail).tail).tail).tail).tail).tail).tail).tail).tail).tail).hd.c1
        have HT3 := hid hT3
        clear hT3
        go_wp2_with fail
        refine (sIsComplex_c n _ fs _ ((((((((((((((((HT3.out).tail).tail).tail).tail).tail).tail).tail).tail).tail).tail).tail).tail).tail).tail).hd)).mono ?_
        rw [HOK.out]
        rintro e wc ⟨rfl, hN⟩
        have hR := HT3.out.quiet hN
        clear k0 k1
        have k0 := ((((((((((((((hR).tail).tail).tail).tail).tail).tail).tail).tail).tail).tail).tail).tail).tail).hd.c0
        have k1 := ((((((((((((((hR).tail).tail).tail).tail).tail).tail).tail).tail).tail).tail).tail).tail).tail).hd.c1
        have k2 := ((((hR).tail).tail).tail).hd.c0
        have k3 := ((((hR).tail).tail).tail).hd.c1
        have HR1 := hid hR
        clear hN hR
        cases ok with
        | false =>
          have em : ML = [] := by rw [← HML.out]; exact missB_no HOK.out
          subst em
          go_wp2_with fail
          go_ret
          exact ⟨rfl, HR1.out.bel⟩
        | true =>
          have hC : IsC n fs := isC_iff.1 HOK.out
          have HB : Hid (∀ w1, Rd w1 vl (ints ML) → Calls Try.prog 28 #[.int .i64 n, vl] w1 fun e w' => ∃ v, e = .returned (.tuple #[cx n v, .bool true]) ∧ St w1 w' [⟨v, 3, ints fs⟩]) := fun w1 h => by
            have h2 := FromMissing_c n _ ML w1 h
            have ea : areB n ML = true := by rw [← HML.out]; exact areB_t (miss_areS hC)
            have ef : fromL n ML = fs := by rw [← HML.out]; exact from_miss hC
            rw [ea, ef] at h2
            exact h2
          unfold cx at HB
          have egn : n = GN := HGN.out
          subst egn
          have HFG : Hid (flagB n GL = true) := by show _ = _; rw [← HGL.out]; exact flag_flag hC
          obtain ⟨fc, hfc⟩ : ∃ fc, flagB n fs = fc := ⟨_, rfl⟩
          have HFC := hid hfc
          have HSC : Hid (decide (GL = fs) = fc) := by show _ = _; rw [← HGL.out, ← hfc, flag_same hC]; rfl
          have qfc : (fc != fc) = false := by simp
          have HMS : Hid (∀ j, j < ML.length → (cu < pc (gi ML j) ∧ pc (gi ML j) ≤ lb) ∧ 0 ≤ gi ML j ∧ gi ML j < 64) := fun j hj => by
            have hm : gi ML j ∈ missB n fs := by rw [HML.out, gi_eq ML j hj]; exact List.getElem_mem _
            have h2 := miss_sizes hC hm
            rw [HCU.out, HLB.out] at h2
            exact ⟨h2, missB_rng _ hm⟩
          clear hC hfc
          go_wp2_with fail
          refine (HB.out _ ((((((((((((((HR1.out).tail).tail).tail).tail).tail).tail).tail).tail).tail).tail).tail).tail).hd)).mono ?_
          rintro e wd ⟨vk, rfl, hN⟩
          obtain ⟨pk, lk, ck, rfl⟩ := hN.hd.form
          have hR2 := (HR1.out.call1 hN).boxAt n (.slice pk lk ck) 26 (H := wd.heap.size) rfl
          clear k0 k1 k2 k3
          have k0 := (hR2).hd.c0
          have k1 := (hR2).hd.c1
          have k2 := ((((((((((((((((hR2).tail).tail).tail).tail).tail).tail).tail).tail).tail).tail).tail).tail).tail).tail).tail).hd.c0
          have k3 := ((((((((((((((((hR2).tail).tail).tail).tail).tail).tail).tail).tail).tail).tail).tail).tail).tail).tail).tail).hd.c1
          have k4 := ((((((hR2).tail).tail).tail).tail).tail).hd.c0
          have k5 := ((((((hR2).tail).tail).tail).tail).tail).hd.c1
          have HR2 := hid hR2
          clear hN hR2
          go_wp2_with fail
          go_region_held3 (fun w' => w'.cell? ⟨wd.heap.size, 0, none⟩ = some (.int .i64 (n)) ∧ w'.cell? ⟨wd.heap.size, 1, none⟩ = some (.slice pk lk ck) ∧ w'.cell? ⟨w1.heap.size, 0, none⟩ = some (.int .i64 (n)) ∧ w'.cell? ⟨w1.heap.size, 1, none⟩ = some (.slice p l c) ∧ w'.cell? ⟨w7.heap.size, 0, none⟩ = some (.int .i64 (n)) ∧ w'.cell? ⟨w7.heap.size, 1, none⟩ = some (.slice pg lg cg)) (first | go_keep | exact ⟨k0, k1, k2, k3, k4, k5⟩)
            (first
              | (go_at_call 34; refine (sameCx2_c n _ _ GL fs _ ((((((((HC3.out).tail).tail).tail).tail).tail).tail).hd) ((((((((((((((((((HC3.out).tail).tail).tail).tail).tail).tail).tail).tail).tail).tail).tail).tail).tail).tail).tail).tail).hd)).mono ?_; rw [HSC.out]; rintro e wa4 ⟨rfl, hN⟩; have hA := (HC3.out).quiet hN; have k0 := (hA).hd.c0; have k1 := (hA).hd.c1; have k2 := ((((((((((((((((hA).tail).tail).tail).tail).tail).tail).tail).tail).tail).tail).tail).tail).tail).tail).tail).hd.c0; have k3 := ((((((((((((((((hA).tail).tail).tail).tail).tail).tail).tail).tail).tail).tail).tail).tail).tail).tail).tail).hd.c1; have k4 := ((((((hA).tail).tail).tail).tail).tail).hd.c0; have k5 := ((((((hA).tail).tail).tail).tail).tail).hd.c1; have HC4 := hid hA; clear hA hN)
              | (go_at_call 35; refine (IsFlag_c n _ fs _ ((((((((((((((((((HC2.out).tail).tail).tail).tail).tail).tail).tail).tail).tail).tail).tail).tail).tail).tail).tail).tail).hd)).mono ?_; rw [HFC.out]; rintro e wa3 ⟨rfl, hN⟩; have hA := (HC2.out).quiet hN; have k0 := (hA).hd.c0; have k1 := (hA).hd.c1; have k2 := ((((((((((((((((hA).tail).tail).tail).tail).tail).tail).tail).tail).tail).tail).tail).tail).tail).tail).tail).hd.c0; have k3 := ((((((((((((((((hA).tail).tail).tail).tail).tail).tail).tail).tail).tail).tail).tail).tail).tail).tail).tail).hd.c1; have k4 := ((((((hA).tail).tail).tail).tail).tail).hd.c0; have k5 := ((((((hA).tail).tail).tail).tail).tail).hd.c1; have HC3 := hid hA; clear hA hN)
              | (go_at_call 35; refine (IsFlag_c n _ GL _ ((((((((HC1.out).tail).tail).tail).tail).tail).tail).hd)).mono ?_; rw [HFG.out]; rintro e wa2 ⟨rfl, hN⟩; have hA := (HC1.out).quiet hN; have k0 := (hA).hd.c0; have k1 := (hA).hd.c1; have k2 := ((((((((((((((((hA).tail).tail).tail).tail).tail).tail).tail).tail).tail).tail).tail).tail).tail).tail).tail).hd.c0; have k3 := ((((((((((((((((hA).tail).tail).tail).tail).tail).tail).tail).tail).tail).tail).tail).tail).tail).tail).tail).hd.c1; have k4 := ((((((hA).tail).tail).tail).tail).tail).hd.c0; have k5 := ((((((hA).tail).tail).tail).tail).tail).hd.c1; have HC2 := hid hA; clear hA hN)
              | (go_at_call 34; refine (sameCx_c n _ _ fs _ ((((HR2.out.drewN 1)).tail).hd) (((((((((((((((((((HR2.out.drewN 1)).tail).tail).tail).tail).tail).tail).tail).tail).tail).tail).tail).tail).tail).tail).tail).tail).hd)).mono ?_; rintro e wa1 ⟨rfl, hN⟩; have hA := ((HR2.out.drewN 1)).quiet hN; have k0 := (hA).hd.c0; have k1 := (hA).hd.c1; have k2 := ((((((((((((((((hA).tail).tail).tail).tail).tail).tail).tail).tail).tail).tail).tail).tail).tail).tail).tail).hd.c0; have k3 := ((((((((((((((((hA).tail).tail).tail).tail).tail).tail).tail).tail).tail).tail).tail).tail).tail).tail).tail).hd.c1; have k4 := ((((((hA).tail).tail).tail).tail).tail).hd.c0; have k5 := ((((((hA).tail).tail).tail).tail).tail).hd.c1; have HC1 := hid hA; clear hA hN))
          all_goals
            have hV := ((((((((((((((HC4.out).tail).tail).tail).tail).tail).tail).tail).tail).tail).tail).tail).tail).tail).tail
            have HV := hid hV
            clear hV k0 k1 k2 k3 k4 k5
            go_wp2_with fail
            go_loopw [18] (fun k wr => ∃ (j : Nat), j ≤ ML.length ∧ k = .int .i64 j ∧ St w wr [⟨vl, 3, ints ML⟩, ⟨bx w1.heap.size, 26, [.int .i64 n, .slice p l c]⟩, ⟨.slice p l c, 3, ints fs⟩]) (fun k _ => ML.length - (intOf k).toNat)
            case atStart => exact ⟨0, Nat.zero_le _, rfl, HV.out⟩
            case round =>
              obtain ⟨j, hj, rfl, hS⟩ := hrel
              have HJ := hid hS
              by_cases hlt : j < ML.length
              · have f1 := hS.hd.iix tI j hlt
                have f2 := hS.hd.intCell j hlt
                have k0 := hS.hd2.c0
                have k1 := hS.hd2.c1
                obtain ⟨⟨m1, m2⟩, m3, m4⟩ := HMS.out j hlt
                obtain ⟨s, hs⟩ : ∃ s, pc (gi ML j) = s := ⟨_, rfl⟩
                rw [hs] at m1 m2
                have HSZ : Hid (∀ w : World, Calls Try.prog 43 #[.int .i64 (gi ML j)] w fun e w' => e = .returned (.int .i64 s) ∧ w = w') := fun w => by rw [← hs]; exact sSizeOf_c _ w m3 m4
                have q1 : decide (s ≤ cu) = false := decide_eq_false (by omega)
                have q2 : decide (lb < s) = false := decide_eq_false (by omega)
                clear hS hs
                go_wp2_with fail
                go_region_held3 (fun w' => w'.cell? ⟨w1.heap.size, 0, none⟩ = some (.int .i64 n) ∧ w'.cell? ⟨w1.heap.size, 1, none⟩ = some (.slice p l c) ∧ w'.cell? (adr vl j) = some (.int .i64 (gi ML j))) (first | go_keep | exact ⟨k0, k1, f2⟩)
                  (first
                    | (go_at_call 37; refine (GreatestMissing_c n _ fs _ HE1.out.hd3).mono ?_; rw [HLB.out]; rintro e wf ⟨rfl, hN⟩; have hA := HE1.out.quiet hN; have k0 := hA.hd2.c0; have k1 := hA.hd2.c1; have f2 := hA.hd.intCell j hlt; have HE2 := hid hA; clear hA hN)
                    | (go_at_call 39; refine (CompleteUpTo_c n _ fs _ (HJ.out.drewN 1).hd3).mono ?_; rw [HCU.out]; rintro e we ⟨rfl, hN⟩; have hA := (HJ.out.drewN 1).quiet hN; have k0 := hA.hd2.c0; have k1 := hA.hd2.c1; have f2 := hA.hd.intCell j hlt; have HE1 := hid hA; clear hA hN)
                    | (go_at_call 43; refine (HSZ.out _).mono ?_; rintro e w' ⟨rfl, rfl⟩))
                all_goals
                  go_wp2_with fail
                  go_roundw
                  case rel => exact ⟨j + 1, by omega, by go_num, HE2.out⟩
                  case measure => simp [intOf]; omega
              · clear hS
                go_wp2_with fail
                go_ret
                exact ⟨rfl, HJ.out.bel⟩

theorem own : ownKnob Try.prog.godebug = none := by kernel_rfl
theorem laidOut : laidOutB Try.prog = true := by kernel_rfl

set_option maxRecDepth 100000 in
theorem lifted (os : Os) (started : os.Started) (H : Type) (enc : TypeId × Value → H) :
    ReturnsInHanded {} Try.checked os 4 .any (Rows.fnMissingSpec.pre6 enc Try.prog Try.f4 Rows.fnMissingRow.domain false) (Rows.fnMissingSpec.post enc Try.prog Try.f4 false true false false) := by
  refine returnsInHanded_of_change (C := Try.checked) own started (by kernel_rfl) Try.func4
    (ChangeSpec.witness6 (enc := enc) (C := Try.checked) false ⟨#[], #[.slice none 0 0], []⟩ 8 (by kernel_rfl) (by kernel_rfl) (by kernel_rfl) (by kernel_rfl)) ?_
  intro W base args ds gs before hval0 hW hcnd _
  have hval : ∀ (j : Nat) t v, Try.f4.params[j]? = some t → args[j]? = some v → Value.okWide Try.prog W .any base t v := hval0
  have hW' := hW
  obtain ⟨p, q, hA0, hV, rfl, hfz, hnd⟩ := hW
  have hA : DataW.TrodAll enc Try.prog W 0 (fun _ => true) true Try.f4.params.toList args.toList ds p := hA0
  rw [Try.params4] at hA hval
  obtain ⟨v0, vs0, d0, ds0, p0, q0, hargs, rfl, rfl, h0, r0⟩ := trodAll_cons hA
  obtain ⟨rfl, rfl, rfl⟩ := trodAll_nil r0
  obtain rfl : args = #[v0] := by cases args; simp_all
  obtain ⟨rfl, rfl⟩ := trodVars_none hV
  obtain ⟨s0, len0, cap0, rfl⟩ := okWide_slice Try.underlying22 (hval 0 22 v0 rfl rfl)
  have k0 := h0
  have lt0 : ∀ x ∈ p0, x.block < W.heap.size := by obtain ⟨m, hm⟩ := k0; exact DataW.trod_lt m _ _ _ hm
  obtain ⟨z0, g0⟩ : ∃ zs, Rd W (.slice s0 len0 cap0) (byts zs) := by
    obtain ⟨fuel, hf⟩ := h0
    rcases open_ints Try.underlying22 Try.underlying5 (by kernel_rfl) hf with ⟨hcs, _⟩ | ⟨x, l, c, zs, hcs, _, hl, hm, hz, _, hcell, _⟩
    · simp [Value.cells] at hcs
      obtain ⟨rfl, rfl, rfl⟩ := hcs
      exact ⟨[], .inl ⟨rfl, rfl⟩⟩
    · simp [Value.cells] at hcs
      obtain ⟨rfl, rfl, rfl⟩ := hcs
      exact ⟨_, rdB_of_open hl hm (by simp at hz; omega) hcell⟩
  clear hA0 hval0
  refine (law_c _ z0 W g0).mono fun e W' ⟨he, bel⟩ => ?_
  subst he
  exact ⟨_, rfl, _, _, _, [], _, [], hW', trodAll_mk1 (shut_bool Try.underlying4 _), (trodAll_cons_mk (Below.trod laidOut (by kernel_rfl) (of_decide_eq_true (by kernel_rfl)) k0 bel lt0) trodAll_mk0), rfl, bel.frame _, fun h => by cases h⟩

theorem over : Rows.fnMissingRow.holds Try.pinned (OpenSpec.ofChange Rows.fnMissingSpec) :=
  OpenClaim.holds_of_wide 4 Try.f4 rfl rfl rfl rfl rfl rfl rfl ⟨rfl, rfl, rfl, rfl, rfl⟩ rfl rfl rfl rfl rfl (by kernel_rfl) Try.func4 (by kernel_rfl)
    (of_decide_eq_true (by kernel_rfl)) (by unfold Func.isWrapper; first | (rw [if_pos (by decide +kernel)]; kernel_rfl) | (rw [if_neg (by decide +kernel)]; exact ⟨rfl, rfl⟩))
    (fun os started H enc _ => lifted os started H enc)

theorem proved : Rows.FnMissingSaid :=
  over
end Go.Proofs.Ytoaggenighfhpaa.fnMissing
