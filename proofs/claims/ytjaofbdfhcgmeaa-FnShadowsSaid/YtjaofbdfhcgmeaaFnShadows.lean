/-
  The statement Rows.FnShadowsSaid: the law answers true at every input, and its arguments read afterwards as before. No further condition.
-/
import Derived.Test.YtjaofbdfhcgmeaaShLaw
import Derived.ProofKit
import Derived.OpenShut
import Derived.ChangeOld
namespace Go.Proofs.Ytjaofbdfhcgmeaa.fnShadows
open Go.ChangeShapes Go.WideShapes Go.ChangeAt Go.RowKit
set_option linter.unusedVariables false

set_option maxHeartbeats 40000000 in
set_option maxRecDepth 100000 in
theorem law_c (u : Value) (z : List Int) (w : World) (g0 : Rd w u (byts z)) : Calls Try.prog 3 #[u] w fun e w' => e = .returned (.bool true) ∧ Below w.heap.size w w' := by
  by_cases hbig : 1048576 < (z.length : Int)
  · go_enter Try.func3, Try.ntmps3
    go_wp2_with (go_at_call 8; refine (big_c u z _ g0).mono ?_; rw [decide_eq_true hbig]; rintro e w' ⟨rfl, rfl⟩)
    go_ret
    exact ⟨rfl, Below.refl _ _⟩
  · have HS := hid (St.start w)
    have G := hid g0
    have HBG := hid (decide_eq_false hbig)
    clear hbig
    go_enter Try.func3, Try.ntmps3
    go_wp2_with (go_at_call 8; refine (big_c u z _ g0).mono ?_; rw [HBG.out]; rintro e w' ⟨rfl, rfl⟩)
    refine (DrawCascadeOf_c u z _ g0).mono ?_
    rintro e w1 ⟨⟨m, k, rfl⟩, hN⟩
    have HS1 := hid (HS.out.quiet hN)
    clear hN
    go_wp2_with fail
    refine (CascadeOf_c m k _).mono ?_
    rintro e w2 ⟨va, rfl, hN⟩
    have HS2 := hid (HS1.out.call1 hN)
    clear hN
    go_wp2_with fail
    refine (DrawCompressedComplex_c u z _ (HS2.out.old G.out)).mono ?_
    rintro e w3 ⟨vl, xs, rfl, hxl, hN⟩
    have HS3 := hid (HS2.out.call1 hN)
    clear hN
    have hcf := cmp_fv (xs := xs)
    have HC1 : Hid (∀ w1, Rd w1 vl (ints xs) → _) := fun w1 h => CompressedComplex_c vl xs w1 h
    have HC2 : Hid (∀ w1, Rd w1 vl (ints xs) → _) := fun w1 h => sCompressedComplex_c vl xs w1 h
    obtain ⟨ok, hok⟩ : ∃ ok, cmpB xs = ok := ⟨_, rfl⟩
    rw [hok] at HC1 HC2 hcf
    have qok : (ok != ok) = false := by simp
    obtain ⟨CL, hCL⟩ : ∃ CL, resL ok (cmpL xs) = CL := ⟨_, rfl⟩
    obtain ⟨CN, hCN⟩ : ∃ CN, resN ok 6 = CN := ⟨_, rfl⟩
    rw [hCL, hCN] at HC1 HC2 hcf
    have HCF := hid hcf
    clear hok hCL hCN hcf
    unfold cx at HC1 HC2
    go_wp2_with fail
    refine (HC1.out _ HS3.out.hd).mono ?_
    rintro e w4 ⟨vc, rfl, hN⟩
    obtain ⟨p, l, c, rfl⟩ := hN.hd.form
    have HS4 := hid ((HS3.out.call1 hN).boxAt CN (.slice p l c) 30 (H := w4.heap.size) rfl)
    clear hN
    go_wp2_with fail
    refine (HC2.out _ HS4.out.tail.tail.hd).mono ?_
    rintro e w5 ⟨vd, rfl, hN⟩
    obtain ⟨p2, l2, c2, rfl⟩ := hN.hd.form
    have HS5 := hid ((HS4.out.call1 hN).boxAt CN (.slice p2 l2 c2) 30 (H := w5.heap.size) rfl)
    clear hN
    go_wp2_with fail
    refine (DrawFirstSets_c u z _ (HS5.out.old G.out)).mono ?_
    rintro e w6 ⟨⟨fp, fq, rfl⟩, hN⟩
    have HS6 := hid (HS5.out.quiet hN)
    clear hN
    go_wp2_with fail
    refine (DrawFaceCounts_c u z _ (HS6.out.old G.out)).mono ?_
    rintro e w7 ⟨n, v, fs, rfl, _, hN⟩
    have HS7 := hid (HS6.out.call1 hN)
    clear hN
    go_wp2_with fail
    refine (sFaceCounts_c n v fs _ HS7.out.hd).mono ?_
    have hposs := fv_poss (n := n) (xs := fs)
    have hf7 := fvB_len n fs
    obtain ⟨F, hF⟩ : ∃ F, fvB n fs = F := ⟨_, rfl⟩
    rw [hF] at hposs hf7
    rw [hF]
    have HPO := hid hposs
    clear hposs hF
    rintro e w8 ⟨vf, rfl, hN⟩
    have HS8 := hid (HS7.out.call1 hN)
    clear hN
    go_wp2_with fail
    refine (sCascadeOf_c m k _).mono ?_
    rintro e w9 ⟨vb, rfl, hN⟩
    have HS9 := hid (HS8.out.call1 hN)
    clear hN
    go_wp2_with fail
    refine (same_c _ _ (cascB m k) _ (((((((((HS9.out).tail).tail).tail).tail).tail).tail).tail).tail).hd HS9.out.hd).mono ?_
    rintro e w10 ⟨rfl, q10, hq⟩
    have hN := HS9.out.drewN q10
    rw [← hq] at hN
    have HS10 := hid hN
    clear hN hq
    go_wp2_with fail
    refine (ShadowBound_c m k _).mono ?_
    rintro e w11 ⟨rfl, hN⟩
    have HS11 := hid (HS10.out.quiet hN)
    clear hN
    obtain ⟨sb, hsb⟩ : ∃ sb, shaB m k = sb := ⟨_, rfl⟩
    have HSB := hid hsb
    rw [hsb]
    clear hsb
    have qsb : (sb != sb) = false := by simp
    go_wp2_with fail
    refine (sShadowBound_c m k _).mono ?_
    rw [HSB.out]
    rintro e w12 ⟨rfl, hN⟩
    have hS12 := HS11.out.quiet hN
    have k0 := ((((((hS12).tail).tail).tail).tail).tail).hd.c0
    have k1 := ((((((hS12).tail).tail).tail).tail).tail).hd.c1
    have k2 := ((((hS12).tail).tail).tail).hd.c0
    have k3 := ((((hS12).tail).tail).tail).hd.c1
    have HS12 := hid hS12
    clear hN hS12
    have HSC : Hid (∀ w1, Rd w1 (.slice p l c) (ints CL) → Rd w1 (.slice p2 l2 c2) (ints CL) → _) := fun w1 h h2 => sameCx_c CN (.slice p l c) (.slice p2 l2 c2) CL w1 h h2
    unfold cx at HSC
    go_wp2_with fail
    refine (HSC.out _ (((((((HS12.out).tail).tail).tail).tail).tail).tail).hd (((((HS12.out).tail).tail).tail).tail).hd).mono ?_
    rintro e w13 ⟨rfl, hN⟩
    have HS13 := hid (HS12.out.quiet hN)
    clear hN k0 k1 k2 k3
    go_wp2_with fail
    refine (FirstSets_c fp fq _).mono ?_
    rintro e w14 ⟨vg, rfl, hN⟩
    have HS14 := hid (HS13.out.call1 hN)
    clear hN
    go_wp2_with fail
    refine (sFirstSets_c fp fq _).mono ?_
    rintro e w15 ⟨vh, rfl, hN⟩
    have HS15 := hid (HS14.out.call1 hN)
    clear hN
    go_wp2_with fail
    refine (same_c _ _ (fsB fp fq) _ HS15.out.tail.hd HS15.out.hd).mono ?_
    rintro e w16 ⟨rfl, q16, hq⟩
    have hN := HS15.out.drewN q16
    rw [← hq] at hN
    have HS16 := hid hN
    clear hN hq
    obtain ⟨pb, hpb⟩ : ∃ pb, possB 1 afStep xs = pb := ⟨_, rfl⟩
    have HPB := hid hpb
    clear hpb
    have qpb : (pb != pb) = false := by simp
    go_wp2_with fail
    refine (AreFaceCounts_c _ xs _ ((((((((((HS16.out).tail).tail).tail).tail).tail).tail).tail).tail).tail).hd).mono ?_
    rw [HPB.out]
    rintro e w17 ⟨rfl, hN⟩
    have HS17 := hid (HS16.out.quiet hN)
    clear hN
    go_wp2_with fail
    refine (sAreFaceCounts_c _ xs _ ((((((((((HS17.out).tail).tail).tail).tail).tail).tail).tail).tail).tail).hd).mono ?_
    rw [HPB.out]
    rintro e w18 ⟨rfl, hN⟩
    have HS18 := hid (HS17.out.quiet hN)
    clear hN
    have lf := ((((HS18.out).tail).tail).tail).hd.iln tI
    have hla6 := cascB_len m k
    by_cases hlf : 0 < F.length
    · have HQ := hid (possB_t (HPO.out hlf))
      go_wp2_with fail
      refine (AreFaceCounts_c _ F _ (((((HS18.out).tail).tail).tail).hd)).mono ?_
      rw [HQ.out]
      rintro e w19 ⟨rfl, hN⟩
      have HS19 := hid (HS18.out.quiet hN)
      clear hN
      cases ok with
      | false =>
        have la := (((((((((((HS19.out).tail).tail).tail).tail).tail).tail).tail).tail).tail).tail).hd.iln tI
        cases hfit : fitsB m k with
        | false =>
          have eL := cascB_none hfit
          have e0 : ((cascB m k).length : Int) = 0 := by rw [eL]; rfl
          clear eL
          go_wp2_with fail
          go_loopw [14, 15] (fun s i wr => s = .int .i64 0 ∧ i = .int .i64 0 ∧ wr = w19) (fun _ _ _ => 0)
          case atStart => exact ⟨rfl, rfl, rfl⟩
          case round =>
            obtain ⟨rfl, rfl, rfl⟩ := hrel
            go_wp2_with fail
            go_ret
            exact ⟨rfl, (HS19.out).bel⟩
        | true =>
          have hok := cascB_ok hfit
          obtain ⟨_, _, k1, k6⟩ := fitsB_iff.1 hfit
          obtain ⟨m0, m1, _, _⟩ := fitsB_iff.1 hfit
          have HRA := hid ((((((((((((HS19.out).tail).tail).tail).tail).tail).tail).tail).tail).tail).tail).hd)
          clear hfit
          generalize cascB m k = L at *
          have HOK := hid hok
          clear hok
          go_wp2_with fail
          go_loopw [14, 15] (fun s i wr => ∃ (j q : Nat), j ≤ L.length ∧ s = .int .i64 (sumC L k j) ∧ i = .int .i64 j ∧ wr = World.drewN w19 q) (fun _ i _ => L.length - (intOf i).toNat)
          case atStart => exact ⟨0, 0, Nat.zero_le _, rfl, rfl, rfl⟩
          case round =>
            obtain ⟨j, q, hj, rfl, rfl, hw⟩ := hrel
            have hR := HRA.out.drew q
            have hS := (HS19.out).drewN q
            rw [← hw] at hR hS
            have HR := hid hR
            have HST := hid hS
            have HW := hid hw
            have la2 := hR.iln tI
            clear hR hS hw
            by_cases hlt : j < L.length
            · have f1 := HR.out.iix tI j hlt
              have f2 := HR.out.intCell j hlt
              obtain ⟨d1, d2, d3⟩ := HOK.out.dig j hlt
              have hterm := HOK.out.term hlt
              have hp1 := HOK.out.part j (by omega)
              have hp2 := HOK.out.part (j + 1) (by omega)
              have hbg := hid (fun h => HOK.out.big k6 m1 hlt h)
              have hch := hid (fun h => HOK.out.choose hlt h)
              have E1 : Hid (sumC L k (j + 1) = sumC L k j + chW (gi L j) (k - (j : Int))) := rfl
              have e1 : IntKind.i64.wrap (k - (j : Int)) = k - (j : Int) := IntWalk.i64_in _ (by omega)
              have q1 : decide (gi L j < k - (j : Int)) = false := decide_eq_false (by omega)
              have e2 : IntKind.i64.wrap (sumC L k j + chW (gi L j) (k - (j : Int))) = sumC L k (j + 1) := by rw [E1.out]; exact IntWalk.i64_in _ (by rw [← E1.out]; omega)
              clear hp1 hp2 hterm d1 d2 d3
              by_cases hj0 : j = 0
              · have q3 : decide ((0 : Int) < (j : Int)) = false := decide_eq_false (by omega)
                have q4 : decide (0 < j) = false := decide_eq_false (by omega)
                have q5 : ¬ 0 < j := by omega
                clear hj0
                go_wp2_with fail
                go_quiet (fail)
                by_cases h60 : gi L j ≤ 60
                · have HCH := hid (hch.out h60)
                  go_wp2_with (go_at_call 26; refine (sChoose_c _ _ _).mono ?_; rw [HCH.out]; rintro e w' ⟨rfl, rfl⟩)
                  go_roundw
                  case rel => exact ⟨j + 1, q + nq, by omega, rfl, by go_num, by rw [HW.out, World.drewN_drewN]⟩
                  case measure => simp [intOf]; omega
                · have ek : k = 1 := hbg.out (by omega)
                  have qk : (k == 1) = true := by rw [ek]; rfl
                  clear ek
                  go_wp2_with fail
                  go_ret
                  exact ⟨rfl, (HST.out.drewN nq).bel⟩
              · obtain ⟨i, hi⟩ : ∃ i, j = i + 1 := ⟨j - 1, by omega⟩
                have f3 := HR.out.intCell i (by omega)
                have f4 := HR.out.iix tI i (by omega)
                have q2 : decide (gi L i ≤ gi L j) = false := decide_eq_false (by have := HOK.out.fall i (by omega); rw [hi]; omega)
                have q3 : decide ((0 : Int) < (j : Int)) = true := decide_eq_true (by omega)
                have e5 : IntKind.i64.wrap ((j : Int) - 1) = (i : Int) := by rw [show (j : Int) - 1 = (i : Int) by omega]; exact IntWalk.i64_in _ (by omega)
                have q4 : decide (0 < j) = true := decide_eq_true (by omega)
                have q5 : 0 < j := by omega
                clear hi hj0
                go_wp2_with fail
                go_quiet (fail)
                by_cases h60 : gi L j ≤ 60
                · have HCH := hid (hch.out h60)
                  go_wp2_with (go_at_call 26; refine (sChoose_c _ _ _).mono ?_; rw [HCH.out]; rintro e w' ⟨rfl, rfl⟩)
                  go_roundw
                  case rel => exact ⟨j + 1, q + nq, by omega, rfl, by go_num, by rw [HW.out, World.drewN_drewN]⟩
                  case measure => simp [intOf]; omega
                · have ek : k = 1 := hbg.out (by omega)
                  have qk : (k == 1) = true := by rw [ek]; rfl
                  clear ek
                  go_wp2_with fail
                  go_ret
                  exact ⟨rfl, (HST.out.drewN nq).bel⟩
            · have ej : j = L.length := by omega
              have hsum := HOK.out.sum
              rw [← ej] at hsum
              by_cases h0 : L.length = 0
              · have q0 : ((L.length : Int) == 0) = true := by rw [beq_iff_eq]; omega
                have q1 : decide ((j : Int) < (L.length : Int)) = false := decide_eq_false (by omega)
                clear hsum ej
                go_wp2_with fail
                go_ret
                exact ⟨rfl, HST.out.bel⟩
              · have q0 : ((L.length : Int) == 0) = false := by rw [beq_eq_false_iff_ne]; omega
                have q1 : decide ((j : Int) < (L.length : Int)) = false := decide_eq_false (by omega)
                have q2 : (sumC L k j == m) = true := by rw [beq_iff_eq]; exact hsum
                clear hsum ej
                go_wp2_with fail
                go_ret
                exact ⟨rfl, HST.out.bel⟩
      | true =>
        have ecf := HCF.out rfl
        have k0 := ((((((((HS19.out).tail).tail).tail).tail).tail).tail).tail).hd.c0
        have k1 := ((((((((HS19.out).tail).tail).tail).tail).tail).tail).tail).hd.c1
        go_wp2_with fail
        refine (sFaceCounts_c CN _ CL _ (((((((((HS19.out).tail).tail).tail).tail).tail).tail).tail).tail).hd).mono ?_
        rw [ecf]
        rintro e w21 ⟨vk, rfl, hN⟩
        have HS21 := hid ((HS19.out).call1 hN)
        clear hN k0 k1
        go_wp2_with fail
        refine (same_c _ _ xs _ HS21.out.hd (((((((((((HS21.out).tail).tail).tail).tail).tail).tail).tail).tail).tail).tail).hd).mono ?_
        rintro e w22 ⟨rfl, q22, hq⟩
        have hN := HS21.out.drewN q22
        rw [← hq] at hN
        have HS22 := hid hN
        clear hN hq
        have la := ((((((((((((HS22.out).tail).tail).tail).tail).tail).tail).tail).tail).tail).tail).tail).hd.iln tI
        cases hfit : fitsB m k with
        | false =>
          have eL := cascB_none hfit
          have e0 : ((cascB m k).length : Int) = 0 := by rw [eL]; rfl
          clear eL
          go_wp2_with fail
          go_loopw [14, 15] (fun s i wr => s = .int .i64 0 ∧ i = .int .i64 0 ∧ wr = w22) (fun _ _ _ => 0)
          case atStart => exact ⟨rfl, rfl, rfl⟩
          case round =>
            obtain ⟨rfl, rfl, rfl⟩ := hrel
            go_wp2_with fail
            go_ret
            exact ⟨rfl, (HS22.out).bel⟩
        | true =>
          have hok := cascB_ok hfit
          obtain ⟨_, _, k1, k6⟩ := fitsB_iff.1 hfit
          obtain ⟨m0, m1, _, _⟩ := fitsB_iff.1 hfit
          have HRA := hid (((((((((((((HS22.out).tail).tail).tail).tail).tail).tail).tail).tail).tail).tail).tail).hd)
          clear hfit
          generalize cascB m k = L at *
          have HOK := hid hok
          clear hok
          go_wp2_with fail
          go_loopw [14, 15] (fun s i wr => ∃ (j q : Nat), j ≤ L.length ∧ s = .int .i64 (sumC L k j) ∧ i = .int .i64 j ∧ wr = World.drewN w22 q) (fun _ i _ => L.length - (intOf i).toNat)
          case atStart => exact ⟨0, 0, Nat.zero_le _, rfl, rfl, rfl⟩
          case round =>
            obtain ⟨j, q, hj, rfl, rfl, hw⟩ := hrel
            have hR := HRA.out.drew q
            have hS := (HS22.out).drewN q
            rw [← hw] at hR hS
            have HR := hid hR
            have HST := hid hS
            have HW := hid hw
            have la2 := hR.iln tI
            clear hR hS hw
            by_cases hlt : j < L.length
            · have f1 := HR.out.iix tI j hlt
              have f2 := HR.out.intCell j hlt
              obtain ⟨d1, d2, d3⟩ := HOK.out.dig j hlt
              have hterm := HOK.out.term hlt
              have hp1 := HOK.out.part j (by omega)
              have hp2 := HOK.out.part (j + 1) (by omega)
              have hbg := hid (fun h => HOK.out.big k6 m1 hlt h)
              have hch := hid (fun h => HOK.out.choose hlt h)
              have E1 : Hid (sumC L k (j + 1) = sumC L k j + chW (gi L j) (k - (j : Int))) := rfl
              have e1 : IntKind.i64.wrap (k - (j : Int)) = k - (j : Int) := IntWalk.i64_in _ (by omega)
              have q1 : decide (gi L j < k - (j : Int)) = false := decide_eq_false (by omega)
              have e2 : IntKind.i64.wrap (sumC L k j + chW (gi L j) (k - (j : Int))) = sumC L k (j + 1) := by rw [E1.out]; exact IntWalk.i64_in _ (by rw [← E1.out]; omega)
              clear hp1 hp2 hterm d1 d2 d3
              by_cases hj0 : j = 0
              · have q3 : decide ((0 : Int) < (j : Int)) = false := decide_eq_false (by omega)
                have q4 : decide (0 < j) = false := decide_eq_false (by omega)
                have q5 : ¬ 0 < j := by omega
                clear hj0
                go_wp2_with fail
                go_quiet (fail)
                by_cases h60 : gi L j ≤ 60
                · have HCH := hid (hch.out h60)
                  go_wp2_with (go_at_call 26; refine (sChoose_c _ _ _).mono ?_; rw [HCH.out]; rintro e w' ⟨rfl, rfl⟩)
                  go_roundw
                  case rel => exact ⟨j + 1, q + nq, by omega, rfl, by go_num, by rw [HW.out, World.drewN_drewN]⟩
                  case measure => simp [intOf]; omega
                · have ek : k = 1 := hbg.out (by omega)
                  have qk : (k == 1) = true := by rw [ek]; rfl
                  clear ek
                  go_wp2_with fail
                  go_ret
                  exact ⟨rfl, (HST.out.drewN nq).bel⟩
              · obtain ⟨i, hi⟩ : ∃ i, j = i + 1 := ⟨j - 1, by omega⟩
                have f3 := HR.out.intCell i (by omega)
                have f4 := HR.out.iix tI i (by omega)
                have q2 : decide (gi L i ≤ gi L j) = false := decide_eq_false (by have := HOK.out.fall i (by omega); rw [hi]; omega)
                have q3 : decide ((0 : Int) < (j : Int)) = true := decide_eq_true (by omega)
                have e5 : IntKind.i64.wrap ((j : Int) - 1) = (i : Int) := by rw [show (j : Int) - 1 = (i : Int) by omega]; exact IntWalk.i64_in _ (by omega)
                have q4 : decide (0 < j) = true := decide_eq_true (by omega)
                have q5 : 0 < j := by omega
                clear hi hj0
                go_wp2_with fail
                go_quiet (fail)
                by_cases h60 : gi L j ≤ 60
                · have HCH := hid (hch.out h60)
                  go_wp2_with (go_at_call 26; refine (sChoose_c _ _ _).mono ?_; rw [HCH.out]; rintro e w' ⟨rfl, rfl⟩)
                  go_roundw
                  case rel => exact ⟨j + 1, q + nq, by omega, rfl, by go_num, by rw [HW.out, World.drewN_drewN]⟩
                  case measure => simp [intOf]; omega
                · have ek : k = 1 := hbg.out (by omega)
                  have qk : (k == 1) = true := by rw [ek]; rfl
                  clear ek
                  go_wp2_with fail
                  go_ret
                  exact ⟨rfl, (HST.out.drewN nq).bel⟩
            · have ej : j = L.length := by omega
              have hsum := HOK.out.sum
              rw [← ej] at hsum
              by_cases h0 : L.length = 0
              · have q0 : ((L.length : Int) == 0) = true := by rw [beq_iff_eq]; omega
                have q1 : decide ((j : Int) < (L.length : Int)) = false := decide_eq_false (by omega)
                clear hsum ej
                go_wp2_with fail
                go_ret
                exact ⟨rfl, HST.out.bel⟩
              · have q0 : ((L.length : Int) == 0) = false := by rw [beq_eq_false_iff_ne]; omega
                have q1 : decide ((j : Int) < (L.length : Int)) = false := decide_eq_false (by omega)
                have q2 : (sumC L k j == m) = true := by rw [beq_iff_eq]; exact hsum
                clear hsum ej
                go_wp2_with fail
                go_ret
                exact ⟨rfl, HST.out.bel⟩
    · have q0 : decide ((0 : Int) < (F.length : Int)) = false := decide_eq_false (by omega)
      cases ok with
      | false =>
        have la := (((((((((((HS18.out).tail).tail).tail).tail).tail).tail).tail).tail).tail).tail).hd.iln tI
        cases hfit : fitsB m k with
        | false =>
          have eL := cascB_none hfit
          have e0 : ((cascB m k).length : Int) = 0 := by rw [eL]; rfl
          clear eL
          go_wp2_with fail
          go_loopw [14, 15] (fun s i wr => s = .int .i64 0 ∧ i = .int .i64 0 ∧ wr = w18) (fun _ _ _ => 0)
          case atStart => exact ⟨rfl, rfl, rfl⟩
          case round =>
            obtain ⟨rfl, rfl, rfl⟩ := hrel
            go_wp2_with fail
            go_ret
            exact ⟨rfl, (HS18.out).bel⟩
        | true =>
          have hok := cascB_ok hfit
          obtain ⟨_, _, k1, k6⟩ := fitsB_iff.1 hfit
          obtain ⟨m0, m1, _, _⟩ := fitsB_iff.1 hfit
          have HRA := hid ((((((((((((HS18.out).tail).tail).tail).tail).tail).tail).tail).tail).tail).tail).hd)
          clear hfit
          generalize cascB m k = L at *
          have HOK := hid hok
          clear hok
          go_wp2_with fail
          go_loopw [14, 15] (fun s i wr => ∃ (j q : Nat), j ≤ L.length ∧ s = .int .i64 (sumC L k j) ∧ i = .int .i64 j ∧ wr = World.drewN w18 q) (fun _ i _ => L.length - (intOf i).toNat)
          case atStart => exact ⟨0, 0, Nat.zero_le _, rfl, rfl, rfl⟩
          case round =>
            obtain ⟨j, q, hj, rfl, rfl, hw⟩ := hrel
            have hR := HRA.out.drew q
            have hS := (HS18.out).drewN q
            rw [← hw] at hR hS
            have HR := hid hR
            have HST := hid hS
            have HW := hid hw
            have la2 := hR.iln tI
            clear hR hS hw
            by_cases hlt : j < L.length
            · have f1 := HR.out.iix tI j hlt
              have f2 := HR.out.intCell j hlt
              obtain ⟨d1, d2, d3⟩ := HOK.out.dig j hlt
              have hterm := HOK.out.term hlt
              have hp1 := HOK.out.part j (by omega)
              have hp2 := HOK.out.part (j + 1) (by omega)
              have hbg := hid (fun h => HOK.out.big k6 m1 hlt h)
              have hch := hid (fun h => HOK.out.choose hlt h)
              have E1 : Hid (sumC L k (j + 1) = sumC L k j + chW (gi L j) (k - (j : Int))) := rfl
              have e1 : IntKind.i64.wrap (k - (j : Int)) = k - (j : Int) := IntWalk.i64_in _ (by omega)
              have q1 : decide (gi L j < k - (j : Int)) = false := decide_eq_false (by omega)
              have e2 : IntKind.i64.wrap (sumC L k j + chW (gi L j) (k - (j : Int))) = sumC L k (j + 1) := by rw [E1.out]; exact IntWalk.i64_in _ (by rw [← E1.out]; omega)
              clear hp1 hp2 hterm d1 d2 d3
              by_cases hj0 : j = 0
              · have q3 : decide ((0 : Int) < (j : Int)) = false := decide_eq_false (by omega)
                have q4 : decide (0 < j) = false := decide_eq_false (by omega)
                have q5 : ¬ 0 < j := by omega
                clear hj0
                go_wp2_with fail
                go_quiet (fail)
                by_cases h60 : gi L j ≤ 60
                · have HCH := hid (hch.out h60)
                  go_wp2_with (go_at_call 26; refine (sChoose_c _ _ _).mono ?_; rw [HCH.out]; rintro e w' ⟨rfl, rfl⟩)
                  go_roundw
                  case rel => exact ⟨j + 1, q + nq, by omega, rfl, by go_num, by rw [HW.out, World.drewN_drewN]⟩
                  case measure => simp [intOf]; omega
                · have ek : k = 1 := hbg.out (by omega)
                  have qk : (k == 1) = true := by rw [ek]; rfl
                  clear ek
                  go_wp2_with fail
                  go_ret
                  exact ⟨rfl, (HST.out.drewN nq).bel⟩
              · obtain ⟨i, hi⟩ : ∃ i, j = i + 1 := ⟨j - 1, by omega⟩
                have f3 := HR.out.intCell i (by omega)
                have f4 := HR.out.iix tI i (by omega)
                have q2 : decide (gi L i ≤ gi L j) = false := decide_eq_false (by have := HOK.out.fall i (by omega); rw [hi]; omega)
                have q3 : decide ((0 : Int) < (j : Int)) = true := decide_eq_true (by omega)
                have e5 : IntKind.i64.wrap ((j : Int) - 1) = (i : Int) := by rw [show (j : Int) - 1 = (i : Int) by omega]; exact IntWalk.i64_in _ (by omega)
                have q4 : decide (0 < j) = true := decide_eq_true (by omega)
                have q5 : 0 < j := by omega
                clear hi hj0
                go_wp2_with fail
                go_quiet (fail)
                by_cases h60 : gi L j ≤ 60
                · have HCH := hid (hch.out h60)
                  go_wp2_with (go_at_call 26; refine (sChoose_c _ _ _).mono ?_; rw [HCH.out]; rintro e w' ⟨rfl, rfl⟩)
                  go_roundw
                  case rel => exact ⟨j + 1, q + nq, by omega, rfl, by go_num, by rw [HW.out, World.drewN_drewN]⟩
                  case measure => simp [intOf]; omega
                · have ek : k = 1 := hbg.out (by omega)
                  have qk : (k == 1) = true := by rw [ek]; rfl
                  clear ek
                  go_wp2_with fail
                  go_ret
                  exact ⟨rfl, (HST.out.drewN nq).bel⟩
            · have ej : j = L.length := by omega
              have hsum := HOK.out.sum
              rw [← ej] at hsum
              by_cases h0 : L.length = 0
              · have q0 : ((L.length : Int) == 0) = true := by rw [beq_iff_eq]; omega
                have q1 : decide ((j : Int) < (L.length : Int)) = false := decide_eq_false (by omega)
                clear hsum ej
                go_wp2_with fail
                go_ret
                exact ⟨rfl, HST.out.bel⟩
              · have q0 : ((L.length : Int) == 0) = false := by rw [beq_eq_false_iff_ne]; omega
                have q1 : decide ((j : Int) < (L.length : Int)) = false := decide_eq_false (by omega)
                have q2 : (sumC L k j == m) = true := by rw [beq_iff_eq]; exact hsum
                clear hsum ej
                go_wp2_with fail
                go_ret
                exact ⟨rfl, HST.out.bel⟩
      | true =>
        have ecf := HCF.out rfl
        have k0 := ((((((((HS18.out).tail).tail).tail).tail).tail).tail).tail).hd.c0
        have k1 := ((((((((HS18.out).tail).tail).tail).tail).tail).tail).tail).hd.c1
        go_wp2_with fail
        refine (sFaceCounts_c CN _ CL _ (((((((((HS18.out).tail).tail).tail).tail).tail).tail).tail).tail).hd).mono ?_
        rw [ecf]
        rintro e w21 ⟨vk, rfl, hN⟩
        have HS21 := hid ((HS18.out).call1 hN)
        clear hN k0 k1
        go_wp2_with fail
        refine (same_c _ _ xs _ HS21.out.hd (((((((((((HS21.out).tail).tail).tail).tail).tail).tail).tail).tail).tail).tail).hd).mono ?_
        rintro e w22 ⟨rfl, q22, hq⟩
        have hN := HS21.out.drewN q22
        rw [← hq] at hN
        have HS22 := hid hN
        clear hN hq
        have la := ((((((((((((HS22.out).tail).tail).tail).tail).tail).tail).tail).tail).tail).tail).tail).hd.iln tI
        cases hfit : fitsB m k with
        | false =>
          have eL := cascB_none hfit
          have e0 : ((cascB m k).length : Int) = 0 := by rw [eL]; rfl
          clear eL
          go_wp2_with fail
          go_loopw [14, 15] (fun s i wr => s = .int .i64 0 ∧ i = .int .i64 0 ∧ wr = w22) (fun _ _ _ => 0)
          case atStart => exact ⟨rfl, rfl, rfl⟩
          case round =>
            obtain ⟨rfl, rfl, rfl⟩ := hrel
            go_wp2_with fail
            go_ret
            exact ⟨rfl, (HS22.out).bel⟩
        | true =>
          have hok := cascB_ok hfit
          obtain ⟨_, _, k1, k6⟩ := fitsB_iff.1 hfit
          obtain ⟨m0, m1, _, _⟩ := fitsB_iff.1 hfit
          have HRA := hid (((((((((((((HS22.out).tail).tail).tail).tail).tail).tail).tail).tail).tail).tail).tail).hd)
          clear hfit
          generalize cascB m k = L at *
          have HOK := hid hok
          clear hok
          go_wp2_with fail
          go_loopw [14, 15] (fun s i wr => ∃ (j q : Nat), j ≤ L.length ∧ s = .int .i64 (sumC L k j) ∧ i = .int .i64 j ∧ wr = World.drewN w22 q) (fun _ i _ => L.length - (intOf i).toNat)
          case atStart => exact ⟨0, 0, Nat.zero_le _, rfl, rfl, rfl⟩
          case round =>
            obtain ⟨j, q, hj, rfl, rfl, hw⟩ := hrel
            have hR := HRA.out.drew q
            have hS := (HS22.out).drewN q
            rw [← hw] at hR hS
            have HR := hid hR
            have HST := hid hS
            have HW := hid hw
            have la2 := hR.iln tI
            clear hR hS hw
            by_cases hlt : j < L.length
            · have f1 := HR.out.iix tI j hlt
              have f2 := HR.out.intCell j hlt
              obtain ⟨d1, d2, d3⟩ := HOK.out.dig j hlt
              have hterm := HOK.out.term hlt
              have hp1 := HOK.out.part j (by omega)
              have hp2 := HOK.out.part (j + 1) (by omega)
              have hbg := hid (fun h => HOK.out.big k6 m1 hlt h)
              have hch := hid (fun h => HOK.out.choose hlt h)
              have E1 : Hid (sumC L k (j + 1) = sumC L k j + chW (gi L j) (k - (j : Int))) := rfl
              have e1 : IntKind.i64.wrap (k - (j : Int)) = k - (j : Int) := IntWalk.i64_in _ (by omega)
              have q1 : decide (gi L j < k - (j : Int)) = false := decide_eq_false (by omega)
              have e2 : IntKind.i64.wrap (sumC L k j + chW (gi L j) (k - (j : Int))) = sumC L k (j + 1) := by rw [E1.out]; exact IntWalk.i64_in _ (by rw [← E1.out]; omega)
              clear hp1 hp2 hterm d1 d2 d3
              by_cases hj0 : j = 0
              · have q3 : decide ((0 : Int) < (j : Int)) = false := decide_eq_false (by omega)
                have q4 : decide (0 < j) = false := decide_eq_false (by omega)
                have q5 : ¬ 0 < j := by omega
                clear hj0
                go_wp2_with fail
                go_quiet (fail)
                by_cases h60 : gi L j ≤ 60
                · have HCH := hid (hch.out h60)
                  go_wp2_with (go_at_call 26; refine (sChoose_c _ _ _).mono ?_; rw [HCH.out]; rintro e w' ⟨rfl, rfl⟩)
                  go_roundw
                  case rel => exact ⟨j + 1, q + nq, by omega, rfl, by go_num, by rw [HW.out, World.drewN_drewN]⟩
                  case measure => simp [intOf]; omega
                · have ek : k = 1 := hbg.out (by omega)
                  have qk : (k == 1) = true := by rw [ek]; rfl
                  clear ek
                  go_wp2_with fail
                  go_ret
                  exact ⟨rfl, (HST.out.drewN nq).bel⟩
              · obtain ⟨i, hi⟩ : ∃ i, j = i + 1 := ⟨j - 1, by omega⟩
                have f3 := HR.out.intCell i (by omega)
                have f4 := HR.out.iix tI i (by omega)
                have q2 : decide (gi L i ≤ gi L j) = false := decide_eq_false (by have := HOK.out.fall i (by omega); rw [hi]; omega)
                have q3 : decide ((0 : Int) < (j : Int)) = true := decide_eq_true (by omega)
                have e5 : IntKind.i64.wrap ((j : Int) - 1) = (i : Int) := by rw [show (j : Int) - 1 = (i : Int) by omega]; exact IntWalk.i64_in _ (by omega)
                have q4 : decide (0 < j) = true := decide_eq_true (by omega)
                have q5 : 0 < j := by omega
                clear hi hj0
                go_wp2_with fail
                go_quiet (fail)
                by_cases h60 : gi L j ≤ 60
                · have HCH := hid (hch.out h60)
                  go_wp2_with (go_at_call 26; refine (sChoose_c _ _ _).mono ?_; rw [HCH.out]; rintro e w' ⟨rfl, rfl⟩)
                  go_roundw
                  case rel => exact ⟨j + 1, q + nq, by omega, rfl, by go_num, by rw [HW.out, World.drewN_drewN]⟩
                  case measure => simp [intOf]; omega
                · have ek : k = 1 := hbg.out (by omega)
                  have qk : (k == 1) = true := by rw [ek]; rfl
                  clear ek
                  go_wp2_with fail
                  go_ret
                  exact ⟨rfl, (HST.out.drewN nq).bel⟩
            · have ej : j = L.length := by omega
              have hsum := HOK.out.sum
              rw [← ej] at hsum
              by_cases h0 : L.length = 0
              · have q0 : ((L.length : Int) == 0) = true := by rw [beq_iff_eq]; omega
                have q1 : decide ((j : Int) < (L.length : Int)) = false := decide_eq_false (by omega)
                clear hsum ej
                go_wp2_with fail
                go_ret
                exact ⟨rfl, HST.out.bel⟩
              · have q0 : ((L.length : Int) == 0) = false := by rw [beq_eq_false_iff_ne]; omega
                have q1 : decide ((j : Int) < (L.length : Int)) = false := decide_eq_false (by omega)
                have q2 : (sumC L k j == m) = true := by rw [beq_iff_eq]; exact hsum
                clear hsum ej
                go_wp2_with fail
                go_ret
                exact ⟨rfl, HST.out.bel⟩

theorem own : ownKnob Try.prog.godebug = none := by kernel_rfl
theorem laidOut : laidOutB Try.prog = true := by kernel_rfl

set_option maxRecDepth 100000 in
theorem lifted (os : Os) (started : os.Started) (H : Type) (enc : TypeId × Value → H) :
    ReturnsInHanded {} Try.checked os 3 .any (Rows.fnShadowsSpec.pre6 enc Try.prog Try.f3 Rows.fnShadowsRow.domain false) (Rows.fnShadowsSpec.post enc Try.prog Try.f3 false true false false) := by
  refine returnsInHanded_of_change (C := Try.checked) own started (by kernel_rfl) Try.func3
    (ChangeSpec.witness6 (enc := enc) (C := Try.checked) false ⟨#[], #[.slice none 0 0], []⟩ 8 (by kernel_rfl) (by kernel_rfl) (by kernel_rfl) (by kernel_rfl)) ?_
  intro W base args ds gs before hval0 hW hcnd _
  have hval : ∀ (j : Nat) t v, Try.f3.params[j]? = some t → args[j]? = some v → Value.okWide Try.prog W .any base t v := hval0
  have hW' := hW
  obtain ⟨p, q, hA0, hV, rfl, hfz, hnd⟩ := hW
  have hA : DataW.TrodAll enc Try.prog W 0 (fun _ => true) true Try.f3.params.toList args.toList ds p := hA0
  rw [Try.params3] at hA hval
  obtain ⟨v0, vs0, d0, ds0, p0, q0, hargs, rfl, rfl, h0, r0⟩ := trodAll_cons hA
  obtain ⟨rfl, rfl, rfl⟩ := trodAll_nil r0
  obtain rfl : args = #[v0] := by cases args; simp_all
  obtain ⟨rfl, rfl⟩ := trodVars_none hV
  obtain ⟨s0, len0, cap0, rfl⟩ := okWide_slice Try.underlying22 (hval 0 22 v0 rfl rfl)
  have k0 := h0
  have lt0 : ∀ x ∈ p0, x.block < W.heap.size := by obtain ⟨m, hm⟩ := k0; exact DataW.trod_lt m _ _ _ hm
  obtain ⟨z0, g0⟩ : ∃ zs, Rd W (.slice s0 len0 cap0) (byts zs) := by
    obtain ⟨fuel, hf⟩ := h0
    rcases open_ints Try.underlying22 Try.underlying5 (by kernel_rfl) hf with ⟨hcs, _⟩ | ⟨x, l, c, zs, hcs, _, hl, hm, hz, _, hcell, _⟩
    · simp [Value.cells] at hcs
      obtain ⟨rfl, rfl, rfl⟩ := hcs
      exact ⟨[], .inl ⟨rfl, rfl⟩⟩
    · simp [Value.cells] at hcs
      obtain ⟨rfl, rfl, rfl⟩ := hcs
      exact ⟨_, rdB_of_open hl hm (by simp at hz; omega) hcell⟩
  clear hA0 hval0
  refine (law_c _ z0 W g0).mono fun e W' ⟨he, bel⟩ => ?_
  subst he
  exact ⟨_, rfl, _, _, _, [], _, [], hW', trodAll_mk1 (shut_bool Try.underlying4 _), (trodAll_cons_mk (Below.trod laidOut (by kernel_rfl) (of_decide_eq_true (by kernel_rfl)) k0 bel lt0) trodAll_mk0), rfl, bel.frame _, fun h => by cases h⟩

theorem over : Rows.fnShadowsRow.holds Try.pinned (OpenSpec.ofChange Rows.fnShadowsSpec) :=
  OpenClaim.holds_of_wide 3 Try.f3 rfl rfl rfl rfl rfl rfl rfl ⟨rfl, rfl, rfl, rfl, rfl⟩ rfl rfl rfl rfl rfl (by kernel_rfl) Try.func3 (by kernel_rfl)
    (of_decide_eq_true (by kernel_rfl)) (by unfold Func.isWrapper; first | (rw [if_pos (by decide +kernel)]; kernel_rfl) | (rw [if_neg (by decide +kernel)]; exact ⟨rfl, rfl⟩))
    (fun os started H enc _ => lifted os started H enc)

theorem proved : Rows.FnShadowsSaid :=
  over
end Go.Proofs.Ytjaofbdfhcgmeaa.fnShadows
