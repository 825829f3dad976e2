/-
  The statement Rows.FnPureSaid: the law answers true at every input, and its arguments read afterwards as before. No further condition.
-/
import Derived.Test.YtoaggenighfhpaaPureC
import Derived.ProofKit
import Derived.OpenShut
import Derived.ChangeOld
namespace Go.Proofs.Ytoaggenighfhpaa.fnPure
open Go.ChangeShapes Go.WideShapes Go.ChangeAt Go.RowKit
set_option linter.unusedVariables false

set_option maxHeartbeats 40000000 in
set_option maxRecDepth 100000 in
theorem law_c (u : Value) (z : List Int) (w : World) (g0 : Rd w u (byts z)) : Calls Try.prog 5 #[u] w fun e w' => e = .returned (.bool true) ∧ Below w.heap.size w w' := by
  by_cases hbig : 1048576 < (z.length : Int)
  · go_enter Try.func5, Try.ntmps5
    go_wp2_with (go_at_call 6; refine (big_c u z _ g0).mono ?_; rw [decide_eq_true hbig]; rintro e w' ⟨rfl, rfl⟩)
    go_ret
    exact ⟨rfl, Below.refl _ _⟩
  · have HS := hid (St.start w)
    have G := hid g0
    have HBG := hid (decide_eq_false hbig)
    clear hbig
    go_enter Try.func5, Try.ntmps5
    go_wp2_with (go_at_call 6; refine (big_c u z _ g0).mono ?_; rw [HBG.out]; rintro e w' ⟨rfl, rfl⟩)
    refine (DrawOrderSets_c u z _ g0).mono ?_
    rintro e w1 ⟨vs, xs, rfl, hxl, hS1⟩
    have HS1 := hid ((HS.out.call1 hS1).newAt #[] 3 (by simp) (H := w1.heap.size) rfl)
    clear hS1
    go_wp2_with (at_builtin; refine wpList_app rfl _ _ rfl tI HS1.out.own HS1.out.hd2 (intsOne _) (by simp; omega) rfl rfl ?_)
    intro vb w2 hO2 hb2
    have HS2 := hid (HS1.out.mut hO2 hb2)
    clear hO2 hb2
    go_wp2_with fail
    refine (DrawDualOf_c u z _ (HS2.out.old G.out)).mono ?_
    rintro e w3 ⟨n, v, fs, rfl, _, hS1⟩
    obtain ⟨p, l, c, rfl⟩ := hS1.hd.form
    have hS3 := (HS2.out.call1 hS1).boxAt n (.slice p l c) 26 (H := w3.heap.size) rfl
    have c0 := hS3.hd.c0
    have c1 := hS3.hd.c1
    have HS3 := hid hS3
    clear hS1 hS3
    unfold cx
    obtain ⟨ct, hct⟩ : ∃ ct, ctB n fs = ct := ⟨_, rfl⟩
    have HCT := hid hct
    obtain ⟨ok, hok⟩ : ∃ ok, isC n fs = ok := ⟨_, rfl⟩
    have HOK := hid hok
    have qok : (ok == ok) = true := by simp
    obtain ⟨DN, hDN⟩ : ∃ DN, resN ok n = DN := ⟨_, rfl⟩
    have HDN := hid hDN
    obtain ⟨DL, hDL⟩ : ∃ DL, resL ok (dualL n fs) = DL := ⟨_, rfl⟩
    have HDL := hid hDL
    have hdl : DL.length ≤ 1000000 := by rw [← hDL]; exact resL_len _ _ (dualL_len n fs)
    obtain ⟨M, hM⟩ : ∃ M, bmB n fs 2 = M := ⟨_, rfl⟩
    have HM := hid hM
    clear hct hok hDN hDL hM
    have HD1 : Hid (∀ w1, Rd w1 (.slice p l c) (ints fs) → Calls Try.prog 48 #[cx n (.slice p l c)] w1 fun e w' => ∃ v, e = .returned (.tuple #[cx DN v, .bool ok]) ∧ St w1 w' [⟨v, 3, ints DL⟩]) := fun w1 h => by have := DualOf_c n _ fs w1 h; rwa [HOK.out, HDN.out, HDL.out] at this
    have HD2 : Hid (∀ w1, Rd w1 (.slice p l c) (ints fs) → Calls Try.prog 50 #[cx n (.slice p l c)] w1 fun e w' => ∃ v, e = .returned (.tuple #[cx DN v, .bool ok]) ∧ St w1 w' [⟨v, 3, ints DL⟩]) := fun w1 h => by have := sDualOf_c n _ fs w1 h; rwa [HOK.out, HDN.out, HDL.out] at this
    have HB1 : Hid (∀ w1, Rd w1 (.slice p l c) (ints fs) → Calls Try.prog 49 #[cx n (.slice p l c), .int .i64 2] w1 fun e w' => ∃ v vs, e = .returned v ∧ vs.length = M.length ∧ St w1 w' (⟨v, 24, vs⟩ :: rowsOn vs M [])) := fun w1 h => by have := BorderMatrix_c n _ fs 2 w1 h; rwa [HM.out] at this
    have HB2 : Hid (∀ w1, Rd w1 (.slice p l c) (ints fs) → Calls Try.prog 53 #[cx n (.slice p l c), .int .i64 2] w1 fun e w' => ∃ v vs, e = .returned v ∧ vs.length = M.length ∧ St w1 w' (⟨v, 24, vs⟩ :: rowsOn vs M [])) := fun w1 h => by have := sBorderMatrix_c n _ fs 2 w1 h; rwa [HM.out] at this
    unfold cx at HD1 HD2 HB1 HB2
    go_wp2_with fail
    refine (ComplexText_c n _ fs _ HS3.out.hd2).mono ?_
    rw [HCT.out]
    rintro e w4 ⟨rfl, hB⟩
    have HS4 := hid (HS3.out.quiet hB)
    clear hB c0 c1
    go_wp2_with fail
    refine (OrderSets_c _ xs _ HS4.out.hd4).mono ?_
    rintro e w5 ⟨vo, rfl, hN⟩
    have hS5 := HS4.out.call1 hN
    have c0 := hS5.hd2.c0
    have c1 := hS5.hd2.c1
    have lo := hS5.hd.iln tI
    have HS5 := hid hS5
    clear hS5 hN
    go_wp2_with fail
    refine (HD1.out _ HS5.out.hd3).mono ?_
    rintro e w6 ⟨vd, rfl, hN⟩
    obtain ⟨pd, ld, cd, rfl⟩ := hN.hd.form
    have hS6 := (HS5.out.call1 hN).boxAt DN (.slice pd ld cd) 26 (H := w6.heap.size) rfl
    clear c0 c1
    have c0 := hS6.hd4.c0
    have c1 := hS6.hd4.c1
    have HS6 := hid hS6
    clear hS6 hN
    go_wp2_with fail
    refine (HB1.out _ HS6.out.hd5).mono ?_
    rintro e w7 ⟨vm, us, rfl, hl, hN⟩
    have hS7 := HS6.out.callM hN
    have hS8 := ((hS7.bring (l1 := ⟨vm, 24, us⟩ :: rows us M)).bring (l1 := ⟨bx w6.heap.size, 26, [.int .i64 DN, .slice pd ld cd]⟩ :: ⟨vm, 24, us⟩ :: rows us M)).bring (l1 := ⟨.slice pd ld cd, 3, ints DL⟩ :: ⟨bx w6.heap.size, 26, [.int .i64 DN, .slice pd ld cd]⟩ :: ⟨vm, 24, us⟩ :: rows us M)
    have HL := hid hl
    have HS8 := hid hS8
    clear hS7 hS8 hN hl c0 c1
    obtain ⟨OL, hOL⟩ : ∃ OL, OL = ordL xs := ⟨_, rfl⟩
    rw [← hOL] at lo HS8
    have hol : OL.length ≤ 448 := by rw [hOL]; exact ordL_len xs
    have HOL := hid hOL
    clear hOL
    go_wp2_with fail
    go_loopw [11] (fun k wr => ∃ (j : Nat) (Q : List Int), j ≤ OL.length ∧ k = .int .i64 j ∧ Q.length = OL.length ∧ St w wr (⟨vo, 3, ints Q⟩ :: ⟨.slice pd ld cd, 3, ints DL⟩ :: ⟨bx w6.heap.size, 26, [.int .i64 DN, .slice pd ld cd]⟩ :: ⟨vm, 24, us⟩ :: rowsOn us M [⟨bx w3.heap.size, 26, [.int .i64 n, .slice p l c]⟩, ⟨.slice p l c, 3, ints fs⟩, ⟨vb, 3, ints xs⟩, ⟨vs, 3, ints xs⟩])) (fun k _ => OL.length - (intOf k).toNat)
    case atStart => exact ⟨0, OL, Nat.zero_le _, rfl, rfl, HS8.out⟩
    case round =>
      obtain ⟨j, Q, hj, rfl, hq, hS⟩ := hrel
      have HS9 := hid hS
      by_cases hlt : j < OL.length
      · have f1 := hS.hd.iix tI j (by omega)
        have f2 := hS.hd.intCell j (by omega)
        have f3 := hS.own.free (.head _) j (by simp; omega)
        clear hS
        go_wp2_with fail
        go_roundw
        case rel =>
          have hS2 := HS9.out.set j (by simp; omega) (.int .i64 99)
          rw [ints_set] at hS2
          exact ⟨j + 1, Q.set j 99, by omega, by go_num, by simp [hq], hS2⟩
        case measure => simp [intOf]; omega
      · have hS2 := hS.tail
        have d0 := hS2.hd2.c0
        have d1 := hS2.hd2.c1
        have ld' := hS2.hd.iln tI
        have HS10 := hid hS2
        clear hS hS2 HS9
        go_wp2_with fail
        go_loopw [12] (fun k wr => ∃ (j : Nat) (Q : List Int), j ≤ DL.length ∧ k = .int .i64 j ∧ Q.length = DL.length ∧ St w wr (⟨.slice pd ld cd, 3, ints Q⟩ :: ⟨bx w6.heap.size, 26, [.int .i64 DN, .slice pd ld cd]⟩ :: ⟨vm, 24, us⟩ :: rowsOn us M [⟨bx w3.heap.size, 26, [.int .i64 n, .slice p l c]⟩, ⟨.slice p l c, 3, ints fs⟩, ⟨vb, 3, ints xs⟩, ⟨vs, 3, ints xs⟩])) (fun k _ => DL.length - (intOf k).toNat)
        case atStart => exact ⟨0, DL, Nat.zero_le _, rfl, rfl, HS10.out⟩
        case round =>
          obtain ⟨j, Q, hj, rfl, hq, hS⟩ := hrel
          have HS11 := hid hS
          have d0 := hS.hd2.c0
          have d1 := hS.hd2.c1
          have ld2 := hS.hd.iln tI
          rw [hq] at ld2
          by_cases hlt : j < DL.length
          · have f1 := hS.hd.iix tI j (by omega)
            have f2 := hS.hd.intCell j (by omega)
            have f3 := hS.own.free (.head _) j (by simp; omega)
            clear hS
            go_wp2_with fail
            go_roundw
            case rel =>
              have hS2 := HS11.out.set j (by simp; omega) (.int .i64 99)
              rw [ints_set] at hS2
              exact ⟨j + 1, Q.set j 99, by omega, by go_num, by simp [hq], hS2⟩
            case measure => simp [intOf]; omega
          · have hS2 := hS.tail.tail
            have lm := (hS2.rdM HL.out).ln
            have hml := (hS2.rdM HL.out).le
            have HS12 := hid hS2
            clear hS hS2 HS11 HS10
            go_wp2_with fail
            go_loopw [13] (fun k wr => ∃ (j : Nat) (N : List (List Int)), j ≤ M.length ∧ k = .int .i64 j ∧ N.length = M.length ∧ St w wr (⟨vm, 24, us⟩ :: rowsOn us N [⟨bx w3.heap.size, 26, [.int .i64 n, .slice p l c]⟩, ⟨.slice p l c, 3, ints fs⟩, ⟨vb, 3, ints xs⟩, ⟨vs, 3, ints xs⟩])) (fun k _ => M.length - (intOf k).toNat)
            case atStart => exact ⟨0, M, Nat.zero_le _, rfl, rfl, HS12.out⟩
            case round =>
              obtain ⟨j, N, hj, rfl, hn, hS⟩ := hrel
              have HLN : Hid (us.length = N.length) := by show _ = _; rw [hn]; exact HL.out
              have HS13 := hid hS
              by_cases hlt : j < M.length
              · have hM1 := hS.rdM HLN.out
                obtain ⟨pp, pl, pc', hp⟩ := (hM1.row j (by omega)).form
                have HP := hid hp
                obtain ⟨R, hR⟩ : ∃ R, (gr N j).length = R := ⟨_, rfl⟩
                have HR := hid hR
                have hRle : R ≤ 9223372036854775807 := by have := (hM1.row j (by omega)).ile; omega
                have f1 := hM1.ix j (by omega)
                clear hS hM1 hp hR
                go_wp2_with fail
                go_loopw [14] (fun k wi => ∃ (t : Nat) (N : List (List Int)), t ≤ R ∧ k = .int .i64 t ∧ N.length = M.length ∧ (gr N j).length = R ∧ St w wi (⟨vm, 24, us⟩ :: rowsOn us N [⟨bx w3.heap.size, 26, [.int .i64 n, .slice p l c]⟩, ⟨.slice p l c, 3, ints fs⟩, ⟨vb, 3, ints xs⟩, ⟨vs, 3, ints xs⟩])) (fun k _ => R - (intOf k).toNat)
                case atStart => exact ⟨0, N, Nat.zero_le _, rfl, hn, HR.out, HS13.out⟩
                case round =>
                  obtain ⟨t, N2, ht, rfl, hn2, hR2, hS⟩ := hrel
                  have HL2 : Hid (us.length = N2.length) := by show _ = _; rw [hn2]; exact HL.out
                  have hM2 := hS.rdM HL2.out
                  have g1 := hM2.ix j (by omega)
                  have g2 := hM2.cell j (by omega)
                  have hrow := hM2.row j (by omega)
                  rw [HP.out] at g2 hrow
                  have lr := hrow.iln tI
                  rw [hR2] at lr
                  have HS14 := hid hS
                  by_cases hlr : t < R
                  · have g3 := hrow.iix tI t (by omega)
                    have g4 := hrow.intCell t (by omega)
                    have g5 := hS.freeRow HL2.out (k := j) (by omega) (j := t) (by omega)
                    rw [HP.out] at g5
                    clear hS hM2 hrow
                    go_wp2_with fail
                    go_roundw
                    case rel =>
                      have hS2 := HS14.out.setAt HL2.out (k := j) (by omega) (j := t) (by omega) 99
                      rw [HP.out] at hS2
                      exact ⟨t + 1, _, by omega, by go_num, by simp [hn2], by rw [gr_set (by omega), if_pos rfl, List.length_set]; exact hR2, hS2⟩
                    case measure => simp [intOf]; omega
                  · clear hS hM2 hrow
                    go_wp2_with fail
                    go_roundw
                    case rel => exact ⟨j + 1, N2, by omega, by go_num, hn2, HS14.out⟩
                    case measure => simp [intOf]; omega
              · have hS2 := hS.dropRows
                have lm2 := (hS.rdM HLN.out).ln
                rw [hn] at lm2
                have c0 := hS2.hd.c0
                have c1 := hS2.hd.c1
                have HS15 := hid hS2
                clear hS hS2 HS13 HS12
                go_wp2_with fail
                refine (OrderSets_c _ xs _ HS15.out.hd4).mono ?_
                rintro e w8 ⟨vp, rfl, hN⟩
                have hS3 := HS15.out.call1 hN
                clear c0 c1
                have c0 := hS3.hd2.c0
                have c1 := hS3.hd2.c1
                have HS16 := hid hS3
                clear hS3 hN
                go_wp2_with fail
                refine (HD1.out _ HS16.out.hd3).mono ?_
                rintro e w9 ⟨ve, rfl, hN⟩
                obtain ⟨pe, le, ce, rfl⟩ := hN.hd.form
                have hS4 := (HS16.out.call1 hN).boxAt DN (.slice pe le ce) 26 (H := w9.heap.size) rfl
                clear c0 c1
                have c0 := hS4.hd4.c0
                have c1 := hS4.hd4.c1
                have HS17 := hid hS4
                clear hS4 hN
                go_wp2_with fail
                refine (HD2.out _ HS17.out.hd5).mono ?_
                rintro e w10 ⟨vf, rfl, hN⟩
                obtain ⟨pf, lf, cf, rfl⟩ := hN.hd.form
                have hS5 := (HS17.out.call1 hN).boxAt DN (.slice pf lf cf) 26 (H := w10.heap.size) rfl
                clear c0 c1
                have k0 := hS5.hd6.c0
                have k1 := hS5.hd6.c1
                have k2 := hS5.hd3.c0
                have k3 := hS5.hd3.c1
                have k4 := hS5.hd.c0
                have k5 := hS5.hd.c1
                have HS18 := hid hS5
                clear hS5 hN
                go_wp2_with fail
                go_region_held3 (fun w' => w'.cell? ⟨w3.heap.size, 0, none⟩ = some (.int .i64 n) ∧ w'.cell? ⟨w3.heap.size, 1, none⟩ = some (.slice p l c) ∧ w'.cell? ⟨w9.heap.size, 0, none⟩ = some (.int .i64 DN) ∧ w'.cell? ⟨w9.heap.size, 1, none⟩ = some (.slice pe le ce) ∧ w'.cell? ⟨w10.heap.size, 0, none⟩ = some (.int .i64 DN) ∧ w'.cell? ⟨w10.heap.size, 1, none⟩ = some (.slice pf lf cf)) (first | go_keep | exact ⟨k0, k1, k2, k3, k4, k5⟩)
                  (first
                    | (go_at_call 52; refine (sameLs_c _ _ vxr vyr M _ (((HA7.out).dropRows).rdM HLvx.out) ((HA7.out).rdM HLvy.out)).mono ?_; rintro e _ ⟨rfl, q8, rfl⟩; have hA := (HA7.out).drewN q8; have k0 := (((((((((hA).dropRows).dropRows).tail).tail).tail).tail).tail).tail).hd.c0; have k1 := (((((((((hA).dropRows).dropRows).tail).tail).tail).tail).tail).tail).hd.c1; have k2 := ((((((hA).dropRows).dropRows).tail).tail).tail).hd.c0; have k3 := ((((((hA).dropRows).dropRows).tail).tail).tail).hd.c1; have k4 := ((((hA).dropRows).dropRows).tail).hd.c0; have k5 := ((((hA).dropRows).dropRows).tail).hd.c1; have HA8 := hid hA; clear hA)
                    | (go_at_call 53; refine (HB2.out _ ((((((((((HA6.out).dropRows).tail).tail).tail).tail).tail).tail).tail).hd)).mono ?_; rintro e wa7 ⟨vy, vyr, rfl, hlvy, hN⟩; have HLvy := hid hlvy; have hA := (HA6.out).callM hN; have k0 := (((((((((hA).dropRows).dropRows).tail).tail).tail).tail).tail).tail).hd.c0; have k1 := (((((((((hA).dropRows).dropRows).tail).tail).tail).tail).tail).tail).hd.c1; have k2 := ((((((hA).dropRows).dropRows).tail).tail).tail).hd.c0; have k3 := ((((((hA).dropRows).dropRows).tail).tail).tail).hd.c1; have k4 := ((((hA).dropRows).dropRows).tail).hd.c0; have k5 := ((((hA).dropRows).dropRows).tail).hd.c1; have HA7 := hid hA; clear hA hN hlvy)
                    | (go_at_call 49; refine (HB1.out _ (((((((((HA5.out).tail).tail).tail).tail).tail).tail).tail).hd)).mono ?_; rintro e wa6 ⟨vx, vxr, rfl, hlvx, hN⟩; have HLvx := hid hlvx; have hA := (HA5.out).callM hN; have k0 := ((((((((hA).dropRows).tail).tail).tail).tail).tail).tail).hd.c0; have k1 := ((((((((hA).dropRows).tail).tail).tail).tail).tail).tail).hd.c1; have k2 := (((((hA).dropRows).tail).tail).tail).hd.c0; have k3 := (((((hA).dropRows).tail).tail).tail).hd.c1; have k4 := (((hA).dropRows).tail).hd.c0; have k5 := (((hA).dropRows).tail).hd.c1; have HA6 := hid hA; clear hA hN hlvx)
                    | (go_at_call 34; refine (sameCx_c DN _ _ DL _ ((((((HA4.out).tail).tail).tail).tail).hd) ((((HA4.out).tail).tail).hd)).mono ?_; rintro e wa5 ⟨rfl, hN⟩; have hA := (HA4.out).quiet hN; have k0 := (((((((hA).tail).tail).tail).tail).tail).tail).hd.c0; have k1 := (((((((hA).tail).tail).tail).tail).tail).tail).hd.c1; have k2 := ((((hA).tail).tail).tail).hd.c0; have k3 := ((((hA).tail).tail).tail).hd.c1; have k4 := ((hA).tail).hd.c0; have k5 := ((hA).tail).hd.c1; have HA5 := hid hA; clear hA hN)
                    | (go_at_call 12; refine (same_c _ _ (ordL xs) _ (((((((HA3.out).tail).tail).tail).tail).tail).hd) ((HA3.out).hd)).mono ?_; rintro e _ ⟨rfl, q4, rfl⟩; have hA := (HA3.out).drewN q4; have k0 := (((((((hA).tail).tail).tail).tail).tail).tail).hd.c0; have k1 := (((((((hA).tail).tail).tail).tail).tail).tail).hd.c1; have k2 := ((((hA).tail).tail).tail).hd.c0; have k3 := ((((hA).tail).tail).tail).hd.c1; have k4 := ((hA).tail).hd.c0; have k5 := ((hA).tail).hd.c1; have HA4 := hid hA; clear hA)
                    | (go_at_call 51; refine (sOrderSets_c _ xs _ ((((((((((HA2.out).tail).tail).tail).tail).tail).tail).tail).tail).hd)).mono ?_; rintro e wa3 ⟨vq, rfl, hN⟩; have hA := (HA2.out).call1 hN; have k0 := (((((((hA).tail).tail).tail).tail).tail).tail).hd.c0; have k1 := (((((((hA).tail).tail).tail).tail).tail).tail).hd.c1; have k2 := ((((hA).tail).tail).tail).hd.c0; have k3 := ((((hA).tail).tail).tail).hd.c1; have k4 := ((hA).tail).hd.c0; have k5 := ((hA).tail).hd.c1; have HA3 := hid hA; clear hA hN)
                    | (go_at_call 12; refine (same_c _ _ xs _ (((((((((((HS18.out.drewN 1)).tail).tail).tail).tail).tail).tail).tail).tail).hd) ((((((((((HS18.out.drewN 1)).tail).tail).tail).tail).tail).tail).tail).hd)).mono ?_; rintro e _ ⟨rfl, q1, rfl⟩; have hA := HS18.out.drewN (1 + q1); have k0 := ((((((hA).tail).tail).tail).tail).tail).hd.c0; have k1 := ((((((hA).tail).tail).tail).tail).tail).hd.c1; have k2 := (((hA).tail).tail).hd.c0; have k3 := (((hA).tail).tail).hd.c1; have k4 := (hA).hd.c0; have k5 := (hA).hd.c1; have HA1 := hid hA; clear hA)
                    | (go_at_call 46; refine (ComplexText_c n _ fs _ ((((((((HA1.out).tail).tail).tail).tail).tail).tail).hd)).mono ?_; rw [HCT.out]; rintro e wa2 ⟨rfl, hN⟩; have hA := (HA1.out).quiet hN; have k0 := ((((((hA).tail).tail).tail).tail).tail).hd.c0; have k1 := ((((((hA).tail).tail).tail).tail).tail).hd.c1; have k2 := (((hA).tail).tail).hd.c0; have k3 := (((hA).tail).tail).hd.c1; have k4 := (hA).hd.c0; have k5 := (hA).hd.c1; have HA2 := hid hA; clear hA hN))
                all_goals
                  go_wp2_with fail
                  go_ret
                  exact ⟨rfl, HA8.out.bel⟩

theorem own : ownKnob Try.prog.godebug = none := by kernel_rfl
theorem laidOut : laidOutB Try.prog = true := by kernel_rfl

set_option maxRecDepth 100000 in
theorem lifted (os : Os) (started : os.Started) (H : Type) (enc : TypeId × Value → H) :
    ReturnsInHanded {} Try.checked os 5 .any (Rows.fnPureSpec.pre6 enc Try.prog Try.f5 Rows.fnPureRow.domain false) (Rows.fnPureSpec.post enc Try.prog Try.f5 false true false false) := by
  refine returnsInHanded_of_change (C := Try.checked) own started (by kernel_rfl) Try.func5
    (ChangeSpec.witness6 (enc := enc) (C := Try.checked) false ⟨#[], #[.slice none 0 0], []⟩ 8 (by kernel_rfl) (by kernel_rfl) (by kernel_rfl) (by kernel_rfl)) ?_
  intro W base args ds gs before hval0 hW hcnd _
  have hval : ∀ (j : Nat) t v, Try.f5.params[j]? = some t → args[j]? = some v → Value.okWide Try.prog W .any base t v := hval0
  have hW' := hW
  obtain ⟨p, q, hA0, hV, rfl, hfz, hnd⟩ := hW
  have hA : DataW.TrodAll enc Try.prog W 0 (fun _ => true) true Try.f5.params.toList args.toList ds p := hA0
  rw [Try.params5] at hA hval
  obtain ⟨v0, vs0, d0, ds0, p0, q0, hargs, rfl, rfl, h0, r0⟩ := trodAll_cons hA
  obtain ⟨rfl, rfl, rfl⟩ := trodAll_nil r0
  obtain rfl : args = #[v0] := by cases args; simp_all
  obtain ⟨rfl, rfl⟩ := trodVars_none hV
  obtain ⟨s0, len0, cap0, rfl⟩ := okWide_slice Try.underlying22 (hval 0 22 v0 rfl rfl)
  have k0 := h0
  have lt0 : ∀ x ∈ p0, x.block < W.heap.size := by obtain ⟨m, hm⟩ := k0; exact DataW.trod_lt m _ _ _ hm
  obtain ⟨z0, g0⟩ : ∃ zs, Rd W (.slice s0 len0 cap0) (byts zs) := by
    obtain ⟨fuel, hf⟩ := h0
    rcases open_ints Try.underlying22 Try.underlying5 (by kernel_rfl) hf with ⟨hcs, _⟩ | ⟨x, l, c, zs, hcs, _, hl, hm, hz, _, hcell, _⟩
    · simp [Value.cells] at hcs
      obtain ⟨rfl, rfl, rfl⟩ := hcs
      exact ⟨[], .inl ⟨rfl, rfl⟩⟩
    · simp [Value.cells] at hcs
      obtain ⟨rfl, rfl, rfl⟩ := hcs
      exact ⟨_, rdB_of_open hl hm (by simp at hz; omega) hcell⟩
  clear hA0 hval0
  refine (law_c _ z0 W g0).mono fun e W' ⟨he, bel⟩ => ?_
  subst he
  exact ⟨_, rfl, _, _, _, [], _, [], hW', trodAll_mk1 (shut_bool Try.underlying4 _), (trodAll_cons_mk (Below.trod laidOut (by kernel_rfl) (of_decide_eq_true (by kernel_rfl)) k0 bel lt0) trodAll_mk0), rfl, bel.frame _, fun h => by cases h⟩

theorem over : Rows.fnPureRow.holds Try.pinned (OpenSpec.ofChange Rows.fnPureSpec) :=
  OpenClaim.holds_of_wide 5 Try.f5 rfl rfl rfl rfl rfl rfl rfl ⟨rfl, rfl, rfl, rfl, rfl⟩ rfl rfl rfl rfl rfl (by kernel_rfl) Try.func5 (by kernel_rfl)
    (of_decide_eq_true (by kernel_rfl)) (by unfold Func.isWrapper; first | (rw [if_pos (by decide +kernel)]; kernel_rfl) | (rw [if_neg (by decide +kernel)]; exact ⟨rfl, rfl⟩))
    (fun os started H enc _ => lifted os started H enc)

theorem proved : Rows.FnPureSaid :=
  over
end Go.Proofs.Ytoaggenighfhpaa.fnPure
