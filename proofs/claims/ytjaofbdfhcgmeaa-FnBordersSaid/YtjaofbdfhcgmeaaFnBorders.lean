/-
  The statement Rows.FnBordersSaid: the law answers true at every input, and its arguments read afterwards as before. No further condition.
-/
import Derived.Test.YtjaofbdfhcgmeaaBDraw2
import Derived.Test.YtjaofbdfhcgmeaaLawC
import Derived.Test.YtjaofbdfhcgmeaaBMath
import Derived.ProofKit
import Derived.OpenShut
import Derived.ChangeOld
namespace Go.Proofs.Ytjaofbdfhcgmeaa.fnBorders
open Go.ChangeShapes Go.WideShapes Go.ChangeAt Go.RowKit
set_option linter.unusedVariables false

set_option maxHeartbeats 40000000 in
set_option maxRecDepth 100000 in
theorem law_c (u : Value) (z : List Int) (w : World) (g0 : Rd w u (byts z)) : Calls Try.prog 6 #[u] w fun e w' => e = .returned (.bool true) ∧ Below w.heap.size w w' := by
  by_cases hbig : 1048576 < (z.length : Int)
  · go_enter Try.func6, Try.ntmps6
    go_wp2_with (go_at_call 8; refine (big_c u z _ g0).mono ?_; rw [decide_eq_true hbig]; rintro e w' ⟨rfl, rfl⟩)
    go_ret
    exact ⟨rfl, Below.refl _ _⟩
  · have HS := hid (St.start w)
    have G := hid g0
    have HBG := hid (decide_eq_false hbig)
    clear hbig
    go_enter Try.func6, Try.ntmps6
    go_wp2_with (go_at_call 8; refine (big_c u z _ g0).mono ?_; rw [HBG.out]; rintro e w' ⟨rfl, rfl⟩)
    refine (DrawBorderMatrix_c u z _ g0).mono ?_
    rintro e w1 ⟨n, v, fs, k, rfl, ⟨k0, k1⟩, _, hN⟩
    obtain ⟨p, l, c, rfl⟩ := hN.hd.form
    have hS1 := (HS.out.call1 hN).boxAt n (.slice p l c) 30 (H := w1.heap.size) rfl
    have c0 := hS1.hd.c0
    have c1 := hS1.hd.c1
    have HS1 := hid hS1
    clear hN hS1
    have HB1 : Hid (∀ j w1, Rd w1 (.slice p l c) (ints fs) → _) := fun j w1 h => BorderMatrix_c n (.slice p l c) fs j w1 h
    have HB2 : Hid (∀ j w1, Rd w1 (.slice p l c) (ints fs) → _) := fun j w1 h => sBorderMatrix_c n (.slice p l c) fs j w1 h
    unfold cx at HB1 HB2 ⊢
    go_wp2_with fail
    refine (HB1.out k _ ((HS1.out).tail).hd).mono ?_
    rintro e w2 ⟨va, vsa, rfl, hl, hN⟩
    have La := hid hl
    have HS2 := hid (HS1.out.callM hN)
    clear hl hN
    clear c0 c1
    have c0 := ((HS2.out).dropRows).hd.c0
    have c1 := ((HS2.out).dropRows).hd.c1
    go_wp2_with fail
    refine (HB1.out (k + 1) _ (((HS2.out).dropRows).tail).hd).mono ?_
    rintro e w3 ⟨vb, vsb, rfl, hl, hN⟩
    have Lb := hid hl
    have HS3 := hid (HS2.out.callM hN)
    clear hl hN
    clear c0 c1
    have c0 := (((HS3.out).dropRows).dropRows).hd.c0
    have c1 := (((HS3.out).dropRows).dropRows).hd.c1
    go_wp2_with fail
    refine (DrawRankMod_c u z _ (HS3.out.old G.out)).mono ?_
    rintro e w4 ⟨vm, vsm, Mm, pm, rfl, hsm, hl, hN⟩
    have Lm := hid hl
    have HMm := hid hsm
    clear hsm
    have HS4 := hid (HS3.out.callM hN)
    clear hl hN
    clear c0 c1
    have c0 := ((((HS4.out).dropRows).dropRows).dropRows).hd.c0
    have c1 := ((((HS4.out).dropRows).dropRows).dropRows).hd.c1
    go_wp2_with fail
    refine (DrawTurnMatrix_c u z _ (HS4.out.old G.out)).mono ?_
    rintro e w5 ⟨vt, vst, Mt, rfl, hsm, hl, hN⟩
    have Lt := hid hl
    have SZ : Hid ((szN2 Mt : Int) ≤ 1048576) := by have := cnt_bd (M := Mt) (B := 10) (n := 10) (fun k _ => hsm.2 k) hsm.1; have := hsm.1; rw [szN2_cnt]; show _ ≤ _; omega
    clear hsm
    have HS5 := hid (HS4.out.callM hN)
    clear hl hN
    clear c0 c1
    have c0 := (((((HS5.out).dropRows).dropRows).dropRows).dropRows).hd.c0
    have c1 := (((((HS5.out).dropRows).dropRows).dropRows).dropRows).hd.c1
    go_wp2_with fail
    refine (TurnMatrix_c _ _ Mt _ ((HS5.out).rdM Lt.out) SZ.out).mono ?_
    rintro e w6 ⟨vu, vsu, rfl, hl, hN⟩
    have Lu := hid hl
    have HS6 := hid (HS5.out.callM hN)
    clear hl hN
    clear c0 c1
    have c0 := ((((((HS6.out).dropRows).dropRows).dropRows).dropRows).dropRows).hd.c0
    have c1 := ((((((HS6.out).dropRows).dropRows).dropRows).dropRows).dropRows).hd.c1
    go_wp2_with fail
    refine (DrawTimesMatrix_c u z _ (HS6.out.old G.out)).mono ?_
    rintro e w7 ⟨vx, vsx, Mx, vy, vsy, My, rfl, hl, hl2, hN⟩
    have Lx := hid hl
    have Ly := hid hl2
    have HS7 := hid (HS6.out.callM2 hN)
    clear hl hl2 hN
    clear c0 c1
    have c0 := ((((((((HS7.out).dropRows).dropRows).dropRows).dropRows).dropRows).dropRows).dropRows).hd.c0
    have c1 := ((((((((HS7.out).dropRows).dropRows).dropRows).dropRows).dropRows).dropRows).dropRows).hd.c1
    obtain ⟨ok, hok⟩ : ∃ ok, timesB Mx My = ok := ⟨_, rfl⟩
    have HOK := hid hok
    have qok : (ok != ok) = false := by simp
    clear hok
    go_wp2_with fail
    refine (TimesMatrix_c _ _ _ _ Mx My _ (((HS7.out).dropRows).rdM Lx.out) ((HS7.out).rdM Ly.out)).mono ?_
    rw [HOK.out]
    rintro e w8 ⟨vz, vsz, rfl, hl, hN⟩
    have Lz := hid hl
    have HS8 := hid (HS7.out.callM hN)
    clear hl hN
    clear c0 c1
    have c0 := (((((((((HS8.out).dropRows).dropRows).dropRows).dropRows).dropRows).dropRows).dropRows).dropRows).hd.c0
    have c1 := (((((((((HS8.out).dropRows).dropRows).dropRows).dropRows).dropRows).dropRows).dropRows).dropRows).hd.c1
    go_wp2_with fail
    refine (sTimesMatrix_c _ _ _ _ Mx My _ ((((HS8.out).dropRows).dropRows).rdM Lx.out) (((HS8.out).dropRows).rdM Ly.out)).mono ?_
    rw [HOK.out]
    rintro e w9 ⟨vq, vsq, rfl, hl, hN⟩
    have Lq := hid hl
    have HS9 := hid (HS8.out.callM hN)
    clear hl hN
    clear c0 c1
    have c0 := ((((((((((HS9.out).dropRows).dropRows).dropRows).dropRows).dropRows).dropRows).dropRows).dropRows).dropRows).hd.c0
    have c1 := ((((((((((HS9.out).dropRows).dropRows).dropRows).dropRows).dropRows).dropRows).dropRows).dropRows).dropRows).hd.c1
    go_wp2_with fail
    refine (DrawInverseMod_c u z _ (HS9.out.old G.out)).mono ?_
    rintro e w10 ⟨n2, q2, rfl, ⟨n20, n21⟩, ⟨q20, q21⟩, hN⟩
    have HS10 := hid (HS9.out.quiet hN)
    clear hN
    clear c0 c1
    have c0 := ((((((((((HS10.out).dropRows).dropRows).dropRows).dropRows).dropRows).dropRows).dropRows).dropRows).dropRows).hd.c0
    have c1 := ((((((((((HS10.out).dropRows).dropRows).dropRows).dropRows).dropRows).dropRows).dropRows).dropRows).dropRows).hd.c1
    go_wp2_with fail
    refine (DrawIsFieldPrime_c u z _ (HS10.out.old G.out)).mono ?_
    rintro e w11 ⟨r2, rfl, hN⟩
    have HS11 := hid (HS10.out.quiet hN)
    clear hN
    clear c0 c1
    have c0 := ((((((((((HS11.out).dropRows).dropRows).dropRows).dropRows).dropRows).dropRows).dropRows).dropRows).dropRows).hd.c0
    have c1 := ((((((((((HS11.out).dropRows).dropRows).dropRows).dropRows).dropRows).dropRows).dropRows).dropRows).dropRows).hd.c1
    obtain ⟨rk, hrk⟩ : ∃ rk, rankB Mm pm = rk := ⟨_, rfl⟩
    have HRK := hid hrk
    have qrk : (rk != rk) = false := by simp
    obtain ⟨iv, hiv⟩ : ∃ iv, invB n2 q2 = iv := ⟨_, rfl⟩
    have HIV := hid hiv
    have qiv : (iv != iv) = false := by simp
    obtain ⟨fb, hfb⟩ : ∃ fb, primeB r2 = fb := ⟨_, rfl⟩
    have HFB := hid hfb
    have qfb : (fb != fb) = false := by simp
    clear hrk hiv hfb
    go_wp2_with fail
    refine (HB2.out k _ (((((((((((HS11.out).dropRows).dropRows).dropRows).dropRows).dropRows).dropRows).dropRows).dropRows).dropRows).tail).hd).mono ?_
    rintro e w12 ⟨v1, vs1, rfl, hl, hN⟩
    have L1 := hid hl
    have HS12 := hid (HS11.out.callM hN)
    clear hl hN
    clear c0 c1
    have c0 := (((((((((((HS12.out).dropRows).dropRows).dropRows).dropRows).dropRows).dropRows).dropRows).dropRows).dropRows).dropRows).hd.c0
    have c1 := (((((((((((HS12.out).dropRows).dropRows).dropRows).dropRows).dropRows).dropRows).dropRows).dropRows).dropRows).dropRows).hd.c1
    go_wp2_with fail
    refine (sameM_c _ _ _ _ (bmB n fs k) _ (((((((((((HS12.out).dropRows).dropRows).dropRows).dropRows).dropRows).dropRows).dropRows).dropRows).dropRows).rdM La.out) ((HS12.out).rdM L1.out)).mono ?_
    rintro e w13 ⟨rfl, qa, hq⟩
    have hN := HS12.out.drewN qa
    rw [← hq] at hN
    have HS13 := hid (hN)
    clear hN hq
    clear c0 c1
    have c0 := (((((((((((HS13.out).dropRows).dropRows).dropRows).dropRows).dropRows).dropRows).dropRows).dropRows).dropRows).dropRows).hd.c0
    have c1 := (((((((((((HS13.out).dropRows).dropRows).dropRows).dropRows).dropRows).dropRows).dropRows).dropRows).dropRows).dropRows).hd.c1
    go_wp2_with fail
    refine (RankMod_c _ _ Mm pm _ (((((((((HS13.out).dropRows).dropRows).dropRows).dropRows).dropRows).dropRows).dropRows).rdM Lm.out)).mono ?_
    rw [HRK.out]
    rintro e w14 ⟨rfl, hN⟩
    have HS14 := hid (HS13.out.quiet hN)
    clear hN
    clear c0 c1
    have c0 := (((((((((((HS14.out).dropRows).dropRows).dropRows).dropRows).dropRows).dropRows).dropRows).dropRows).dropRows).dropRows).hd.c0
    have c1 := (((((((((((HS14.out).dropRows).dropRows).dropRows).dropRows).dropRows).dropRows).dropRows).dropRows).dropRows).dropRows).hd.c1
    go_wp2_with fail
    refine (sRankMod_c _ _ Mm pm _ (((((((((HS14.out).dropRows).dropRows).dropRows).dropRows).dropRows).dropRows).dropRows).rdM Lm.out)).mono ?_
    rw [HRK.out]
    rintro e w15 ⟨rfl, hN⟩
    have HS15 := hid (HS14.out.quiet hN)
    clear hN
    clear c0 c1
    have c0 := (((((((((((HS15.out).dropRows).dropRows).dropRows).dropRows).dropRows).dropRows).dropRows).dropRows).dropRows).dropRows).hd.c0
    have c1 := (((((((((((HS15.out).dropRows).dropRows).dropRows).dropRows).dropRows).dropRows).dropRows).dropRows).dropRows).dropRows).hd.c1
    go_wp2_with fail
    refine (sTurnMatrix_c _ _ Mt _ ((((((((HS15.out).dropRows).dropRows).dropRows).dropRows).dropRows).dropRows).rdM Lt.out) SZ.out).mono ?_
    rintro e w16 ⟨v2, vs2, rfl, hl, hN⟩
    have L2 := hid hl
    have HS16 := hid (HS15.out.callM hN)
    clear hl hN
    clear c0 c1
    have c0 := ((((((((((((HS16.out).dropRows).dropRows).dropRows).dropRows).dropRows).dropRows).dropRows).dropRows).dropRows).dropRows).dropRows).hd.c0
    have c1 := ((((((((((((HS16.out).dropRows).dropRows).dropRows).dropRows).dropRows).dropRows).dropRows).dropRows).dropRows).dropRows).dropRows).hd.c1
    go_wp2_with fail
    refine (sameM_c _ _ _ _ (turnM Mt) _ ((((((((HS16.out).dropRows).dropRows).dropRows).dropRows).dropRows).dropRows).rdM Lu.out) ((HS16.out).rdM L2.out)).mono ?_
    rintro e w17 ⟨rfl, qu, hq⟩
    have hN := HS16.out.drewN qu
    rw [← hq] at hN
    have HS17 := hid (hN)
    clear hN hq
    clear c0 c1
    have c0 := ((((((((((((HS17.out).dropRows).dropRows).dropRows).dropRows).dropRows).dropRows).dropRows).dropRows).dropRows).dropRows).dropRows).hd.c0
    have c1 := ((((((((((((HS17.out).dropRows).dropRows).dropRows).dropRows).dropRows).dropRows).dropRows).dropRows).dropRows).dropRows).dropRows).hd.c1
    go_wp2_with fail
    refine (sameM_c _ _ _ _ (timesM Mx My) _ (((((HS17.out).dropRows).dropRows).dropRows).rdM Lz.out) ((((HS17.out).dropRows).dropRows).rdM Lq.out)).mono ?_
    rintro e w18 ⟨rfl, qz, hq⟩
    have hN := HS17.out.drewN qz
    rw [← hq] at hN
    have HS18 := hid (hN)
    clear hN hq
    clear c0 c1
    have c0 := ((((((((((((HS18.out).dropRows).dropRows).dropRows).dropRows).dropRows).dropRows).dropRows).dropRows).dropRows).dropRows).dropRows).hd.c0
    have c1 := ((((((((((((HS18.out).dropRows).dropRows).dropRows).dropRows).dropRows).dropRows).dropRows).dropRows).dropRows).dropRows).dropRows).hd.c1
    obtain ⟨fine, hfine⟩ : ∃ fine, timesB (bmB n fs k) (bmB n fs (k + 1)) = fine := ⟨_, rfl⟩
    have HFI := hid hfine
    clear hfine
    obtain ⟨TW, hTW⟩ : ∃ TW, timesM (bmB n fs k) (bmB n fs (k + 1)) = TW := ⟨_, rfl⟩
    have HTW := hid hTW
    have HTZ : Hid (∀ i j : Nat, gi (gr TW i) j = 0) := fun i j => by rw [← hTW]; exact times_border n fs k i j
    have HFN : Hid (0 < TW.length → fine = true) := fun h => by
      cases hf : fine with
      | true => rfl
      | false =>
        rw [← hTW] at h
        by_cases ht : TimesOk (bmB n fs k) (bmB n fs (k + 1))
        · have := HFI.out; rw [timesB_t ht, hf] at this; cases this
        · rw [timesM_f ht] at h; simp at h
    clear hTW
    obtain ⟨rt, hrt⟩ : ∃ rt, rankB (turnM Mm) pm = rt := ⟨_, rfl⟩
    have HRT := hid hrt
    have hrt2 : 0 < rk → rt = rk := fun h => by rw [← hrt, ← HRK.out]; exact turn_rank (by rw [HRK.out]; exact h)
    have HRT2 := hid hrt2
    clear hrt hrt2
    obtain ⟨rz, hrz⟩ : ∃ rz, rankB (timesM Mx My) 3 = rz := ⟨_, rfl⟩
    obtain ⟨rx, hrx⟩ : ∃ rx, rankB Mx 3 = rx := ⟨_, rfl⟩
    have HRZ := hid hrz
    have HRX := hid hrx
    have HRZX : Hid (ok = true → rz ≤ rx ∨ rz = -1) := fun h => by rw [← hrz, ← hrx]; exact times_rank (by rw [HOK.out]; exact h)
    clear hrz hrx
    have SZM : Hid ((szN2 Mm : Int) ≤ 1048576) := by have := cnt_bd (M := Mm) (B := 10) (n := 10) (fun k _ => HMm.out.2 k) HMm.out.1; have := HMm.out.1; rw [szN2_cnt]; show _ ≤ _; omega
    by_cases hiv : 0 < iv
    · obtain ⟨i1, i2, i3⟩ := inv_law (a := n2) (p := q2) (by rw [HIV.out]; exact hiv)
      rw [HIV.out] at i1 i2
      have iq : q2 = 2 ∨ q2 = 3 ∨ q2 = 5 := i3
      have ib : -100 ≤ n2 * iv ∧ n2 * iv ≤ 100 := by
        rcases (show iv = 1 ∨ iv = 2 ∨ iv = 3 ∨ iv = 4 by omega) with h | h | h | h <;> rw [h] <;> omega
      obtain ⟨X, hX⟩ : ∃ X, n2 * iv = X := ⟨_, rfl⟩
      rw [hX] at i1 ib
      obtain ⟨ib0, ib1⟩ := ib
      have e1 : IntKind.i64.wrap (n2 * iv) = X := by rw [hX]; exact IntWalk.i64_in _ (by omega)
      have iq0 : (q2 == 0) = false := by simp; omega
      have iq1 : ¬ q2 = 0 := by omega
      have iq2 : decide (q2 ≤ iv) = false := decide_eq_false (by omega)
      have iv1 : decide (0 < iv) = true := decide_eq_true hiv
      have HI3 := hid i3
      have HIQ := hid iq
      have HX := hid hX
      clear i3 iq hX
      go_wp2_with (first | (go_at_call 80; refine (sInverseMod_c _ _ _).mono ?_; rw [HIV.out]; rintro e w' ⟨rfl, rfl⟩) | (go_at_call 79; refine (InverseMod_c _ _ _).mono ?_; rw [HIV.out]; rintro e w' ⟨rfl, rfl⟩) | (go_at_call 81; refine (IsFieldPrime_c _ _).mono ?_; rw [HFB.out]; rintro e w' ⟨rfl, rfl⟩) | (go_at_call 82; refine (sIsFieldPrime_c _ _).mono ?_; rw [HFB.out]; rintro e w' ⟨rfl, rfl⟩))
      refine (TimesMatrix_c _ _ _ _ (bmB n fs k) (bmB n fs (k + 1)) _ ((((((((((((HS18.out).dropRows).dropRows).dropRows).dropRows).dropRows).dropRows).dropRows).dropRows).dropRows).dropRows).rdM La.out) (((((((((((HS18.out).dropRows).dropRows).dropRows).dropRows).dropRows).dropRows).dropRows).dropRows).dropRows).rdM Lb.out)).mono ?_
      rw [HFI.out, HTW.out]
      rintro e w19 ⟨vw, vsw, rfl, hl, hN⟩
      have Lw := hid hl
      have HS19 := hid (HS18.out.callM hN)
      clear hl hN
      have lw := ((HS19.out).rdM Lw.out).ln
      have bw := ((HS19.out).rdM Lw.out).le
      go_wp2_with fail
      go_loop [23] (fun i => ∃ i' : Nat, i' ≤ TW.length ∧ i = .int .i64 i') (fun i => TW.length - (intOf i).toNat)
      case atStart => exact ⟨0, Nat.zero_le _, rfl⟩
      case round =>
        obtain ⟨i, hi, rfl⟩ := hrel
        by_cases hlt : i < TW.length
        · have hfn := HFN.out (Nat.lt_of_le_of_lt (Nat.zero_le _) hlt)
          have f1 := ((HS19.out).rdM Lw.out).ix i hlt
          have f2 := ((HS19.out).rdM Lw.out).cell i hlt
          have hR := ((HS19.out).rdM Lw.out).row i hlt
          have lr := hR.iln tI
          have br := hR.ile
          have HR := hid hR
          clear hR
          have qi : decide ((i : Int) < (TW.length : Int)) = true := decide_eq_true (by omega)
          subst hfn
          go_wp2_with fail
          go_loop [24] (fun j => ∃ j' : Nat, j' ≤ (gr TW i).length ∧ j = .int .i64 j') (fun j => (gr TW i).length - (intOf j).toNat)
          case atStart => exact ⟨0, Nat.zero_le _, rfl⟩
          case round =>
            obtain ⟨j, hj, rfl⟩ := hrel
            by_cases hjl : j < (gr TW i).length
            · have g1 := HR.out.iix tI j hjl
              have g2 := HR.out.intCell j hjl
              rw [HTZ.out i j] at g2
              go_wp2_with fail
              go_round
              case rel => exact ⟨j + 1, by omega, by go_num⟩
              case measure => simp [intOf]; omega
            · go_wp2_with fail
              go_round
              case rel => exact ⟨i + 1, by omega, by go_num⟩
              case measure => simp [intOf]; omega
        · have qi : decide ((i : Int) < (TW.length : Int)) = false := decide_eq_false (by omega)
          go_wp2_with fail
          refine (RankMod_c _ _ Mm pm _ (((((((((((HS19.out).dropRows).dropRows).dropRows).dropRows).dropRows).dropRows).dropRows).dropRows).dropRows).rdM Lm.out)).mono ?_
          rw [HRK.out]
          rintro e w20 ⟨rfl, hN⟩
          have HS20 := hid (HS19.out.quiet hN)
          clear hN
          by_cases hrk : 0 < rk
          · have qk : decide (0 < rk) = true := decide_eq_true hrk
            have ert := HRT2.out hrk
            subst ert
            go_wp2_with fail
            refine (TurnMatrix_c _ _ Mm _ (((((((((((HS20.out).dropRows).dropRows).dropRows).dropRows).dropRows).dropRows).dropRows).dropRows).dropRows).rdM Lm.out) SZM.out).mono ?_
            rintro e w21 ⟨v3, vs3, rfl, hl, hN⟩
            have L3 := hid hl
            have HS21 := hid (HS20.out.callM hN)
            clear hl hN
            go_wp2_with fail
            refine (RankMod_c _ _ (turnM Mm) pm _ ((HS21.out).rdM L3.out)).mono ?_
            rw [HRT.out]
            rintro e w22 ⟨rfl, hN⟩
            have HS22 := hid (HS21.out.quiet hN)
            clear hN
            go_wp2_with fail
            refine (RankMod_c _ _ Mm pm _ ((((((((((((HS22.out).dropRows).dropRows).dropRows).dropRows).dropRows).dropRows).dropRows).dropRows).dropRows).dropRows).rdM Lm.out)).mono ?_
            rw [HRK.out]
            rintro e w23 ⟨rfl, hN⟩
            have HS23 := hid (HS22.out.quiet hN)
            clear hN
            cases ok with
            | false =>
              go_wp2_with fail
              go_ret
              exact ⟨rfl, HS23.out.bel⟩
            | true =>
              have HRZX2 := hid (HRZX.out rfl)
              go_wp2_with fail
              refine (RankMod_c _ _ (timesM Mx My) 3 _ (((((((HS23.out).dropRows).dropRows).dropRows).dropRows).dropRows).rdM Lz.out)).mono ?_
              rw [HRZ.out]
              rintro e w24 ⟨rfl, hN⟩
              have HS24 := hid (HS23.out.quiet hN)
              clear hN
              go_wp2_with fail
              refine (RankMod_c _ _ Mx 3 _ (((((((((HS24.out).dropRows).dropRows).dropRows).dropRows).dropRows).dropRows).dropRows).rdM Lx.out)).mono ?_
              rw [HRX.out]
              rintro e w25 ⟨rfl, hN⟩
              have HS25 := hid (HS24.out.quiet hN)
              clear hN
              by_cases hle : rz ≤ rx
              · have ql : decide (rz ≤ rx) = true := decide_eq_true hle
                go_wp2_with fail
                go_ret
                exact ⟨rfl, HS25.out.bel⟩
              · have ql : decide (rz ≤ rx) = false := decide_eq_false hle
                have ez : rz = -1 := HRZX2.out.resolve_left hle
                subst ez
                go_wp2_with fail
                refine (RankMod_c _ _ (timesM Mx My) 3 _ (((((((HS25.out).dropRows).dropRows).dropRows).dropRows).dropRows).rdM Lz.out)).mono ?_
                rw [HRZ.out]
                rintro e w26 ⟨rfl, hN⟩
                have HS26 := hid (HS25.out.quiet hN)
                clear hN
                go_wp2_with fail
                go_ret
                exact ⟨rfl, HS26.out.bel⟩
          · have qk : decide (0 < rk) = false := decide_eq_false hrk
            cases ok with
            | false =>
              go_wp2_with fail
              go_ret
              exact ⟨rfl, HS20.out.bel⟩
            | true =>
              have HRZX2 := hid (HRZX.out rfl)
              go_wp2_with fail
              refine (RankMod_c _ _ (timesM Mx My) 3 _ ((((((HS20.out).dropRows).dropRows).dropRows).dropRows).rdM Lz.out)).mono ?_
              rw [HRZ.out]
              rintro e w21 ⟨rfl, hN⟩
              have HS21 := hid (HS20.out.quiet hN)
              clear hN
              go_wp2_with fail
              refine (RankMod_c _ _ Mx 3 _ ((((((((HS21.out).dropRows).dropRows).dropRows).dropRows).dropRows).dropRows).rdM Lx.out)).mono ?_
              rw [HRX.out]
              rintro e w22 ⟨rfl, hN⟩
              have HS22 := hid (HS21.out.quiet hN)
              clear hN
              by_cases hle : rz ≤ rx
              · have ql : decide (rz ≤ rx) = true := decide_eq_true hle
                go_wp2_with fail
                go_ret
                exact ⟨rfl, HS22.out.bel⟩
              · have ql : decide (rz ≤ rx) = false := decide_eq_false hle
                have ez : rz = -1 := HRZX2.out.resolve_left hle
                subst ez
                go_wp2_with fail
                refine (RankMod_c _ _ (timesM Mx My) 3 _ ((((((HS22.out).dropRows).dropRows).dropRows).dropRows).rdM Lz.out)).mono ?_
                rw [HRZ.out]
                rintro e w23 ⟨rfl, hN⟩
                have HS23 := hid (HS22.out.quiet hN)
                clear hN
                go_wp2_with fail
                go_ret
                exact ⟨rfl, HS23.out.bel⟩
    · have iv1 : decide (0 < iv) = false := decide_eq_false hiv
      go_wp2_with (first | (go_at_call 80; refine (sInverseMod_c _ _ _).mono ?_; rw [HIV.out]; rintro e w' ⟨rfl, rfl⟩) | (go_at_call 79; refine (InverseMod_c _ _ _).mono ?_; rw [HIV.out]; rintro e w' ⟨rfl, rfl⟩) | (go_at_call 81; refine (IsFieldPrime_c _ _).mono ?_; rw [HFB.out]; rintro e w' ⟨rfl, rfl⟩) | (go_at_call 82; refine (sIsFieldPrime_c _ _).mono ?_; rw [HFB.out]; rintro e w' ⟨rfl, rfl⟩))
      refine (TimesMatrix_c _ _ _ _ (bmB n fs k) (bmB n fs (k + 1)) _ ((((((((((((HS18.out).dropRows).dropRows).dropRows).dropRows).dropRows).dropRows).dropRows).dropRows).dropRows).dropRows).rdM La.out) (((((((((((HS18.out).dropRows).dropRows).dropRows).dropRows).dropRows).dropRows).dropRows).dropRows).dropRows).rdM Lb.out)).mono ?_
      rw [HFI.out, HTW.out]
      rintro e w19 ⟨vw, vsw, rfl, hl, hN⟩
      have Lw := hid hl
      have HS19 := hid (HS18.out.callM hN)
      clear hl hN
      have lw := ((HS19.out).rdM Lw.out).ln
      have bw := ((HS19.out).rdM Lw.out).le
      go_wp2_with fail
      go_loop [23] (fun i => ∃ i' : Nat, i' ≤ TW.length ∧ i = .int .i64 i') (fun i => TW.length - (intOf i).toNat)
      case atStart => exact ⟨0, Nat.zero_le _, rfl⟩
      case round =>
        obtain ⟨i, hi, rfl⟩ := hrel
        by_cases hlt : i < TW.length
        · have hfn := HFN.out (Nat.lt_of_le_of_lt (Nat.zero_le _) hlt)
          have f1 := ((HS19.out).rdM Lw.out).ix i hlt
          have f2 := ((HS19.out).rdM Lw.out).cell i hlt
          have hR := ((HS19.out).rdM Lw.out).row i hlt
          have lr := hR.iln tI
          have br := hR.ile
          have HR := hid hR
          clear hR
          have qi : decide ((i : Int) < (TW.length : Int)) = true := decide_eq_true (by omega)
          subst hfn
          go_wp2_with fail
          go_loop [24] (fun j => ∃ j' : Nat, j' ≤ (gr TW i).length ∧ j = .int .i64 j') (fun j => (gr TW i).length - (intOf j).toNat)
          case atStart => exact ⟨0, Nat.zero_le _, rfl⟩
          case round =>
            obtain ⟨j, hj, rfl⟩ := hrel
            by_cases hjl : j < (gr TW i).length
            · have g1 := HR.out.iix tI j hjl
              have g2 := HR.out.intCell j hjl
              rw [HTZ.out i j] at g2
              go_wp2_with fail
              go_round
              case rel => exact ⟨j + 1, by omega, by go_num⟩
              case measure => simp [intOf]; omega
            · go_wp2_with fail
              go_round
              case rel => exact ⟨i + 1, by omega, by go_num⟩
              case measure => simp [intOf]; omega
        · have qi : decide ((i : Int) < (TW.length : Int)) = false := decide_eq_false (by omega)
          go_wp2_with fail
          refine (RankMod_c _ _ Mm pm _ (((((((((((HS19.out).dropRows).dropRows).dropRows).dropRows).dropRows).dropRows).dropRows).dropRows).dropRows).rdM Lm.out)).mono ?_
          rw [HRK.out]
          rintro e w20 ⟨rfl, hN⟩
          have HS20 := hid (HS19.out.quiet hN)
          clear hN
          by_cases hrk : 0 < rk
          · have qk : decide (0 < rk) = true := decide_eq_true hrk
            have ert := HRT2.out hrk
            subst ert
            go_wp2_with fail
            refine (TurnMatrix_c _ _ Mm _ (((((((((((HS20.out).dropRows).dropRows).dropRows).dropRows).dropRows).dropRows).dropRows).dropRows).dropRows).rdM Lm.out) SZM.out).mono ?_
            rintro e w21 ⟨v3, vs3, rfl, hl, hN⟩
            have L3 := hid hl
            have HS21 := hid (HS20.out.callM hN)
            clear hl hN
            go_wp2_with fail
            refine (RankMod_c _ _ (turnM Mm) pm _ ((HS21.out).rdM L3.out)).mono ?_
            rw [HRT.out]
            rintro e w22 ⟨rfl, hN⟩
            have HS22 := hid (HS21.out.quiet hN)
            clear hN
            go_wp2_with fail
            refine (RankMod_c _ _ Mm pm _ ((((((((((((HS22.out).dropRows).dropRows).dropRows).dropRows).dropRows).dropRows).dropRows).dropRows).dropRows).dropRows).rdM Lm.out)).mono ?_
            rw [HRK.out]
            rintro e w23 ⟨rfl, hN⟩
            have HS23 := hid (HS22.out.quiet hN)
            clear hN
            cases ok with
            | false =>
              go_wp2_with fail
              go_ret
              exact ⟨rfl, HS23.out.bel⟩
            | true =>
              have HRZX2 := hid (HRZX.out rfl)
              go_wp2_with fail
              refine (RankMod_c _ _ (timesM Mx My) 3 _ (((((((HS23.out).dropRows).dropRows).dropRows).dropRows).dropRows).rdM Lz.out)).mono ?_
              rw [HRZ.out]
              rintro e w24 ⟨rfl, hN⟩
              have HS24 := hid (HS23.out.quiet hN)
              clear hN
              go_wp2_with fail
              refine (RankMod_c _ _ Mx 3 _ (((((((((HS24.out).dropRows).dropRows).dropRows).dropRows).dropRows).dropRows).dropRows).rdM Lx.out)).mono ?_
              rw [HRX.out]
              rintro e w25 ⟨rfl, hN⟩
              have HS25 := hid (HS24.out.quiet hN)
              clear hN
              by_cases hle : rz ≤ rx
              · have ql : decide (rz ≤ rx) = true := decide_eq_true hle
                go_wp2_with fail
                go_ret
                exact ⟨rfl, HS25.out.bel⟩
              · have ql : decide (rz ≤ rx) = false := decide_eq_false hle
                have ez : rz = -1 := HRZX2.out.resolve_left hle
                subst ez
                go_wp2_with fail
                refine (RankMod_c _ _ (timesM Mx My) 3 _ (((((((HS25.out).dropRows).dropRows).dropRows).dropRows).dropRows).rdM Lz.out)).mono ?_
                rw [HRZ.out]
                rintro e w26 ⟨rfl, hN⟩
                have HS26 := hid (HS25.out.quiet hN)
                clear hN
                go_wp2_with fail
                go_ret
                exact ⟨rfl, HS26.out.bel⟩
          · have qk : decide (0 < rk) = false := decide_eq_false hrk
            cases ok with
            | false =>
              go_wp2_with fail
              go_ret
              exact ⟨rfl, HS20.out.bel⟩
            | true =>
              have HRZX2 := hid (HRZX.out rfl)
              go_wp2_with fail
              refine (RankMod_c _ _ (timesM Mx My) 3 _ ((((((HS20.out).dropRows).dropRows).dropRows).dropRows).rdM Lz.out)).mono ?_
              rw [HRZ.out]
              rintro e w21 ⟨rfl, hN⟩
              have HS21 := hid (HS20.out.quiet hN)
              clear hN
              go_wp2_with fail
              refine (RankMod_c _ _ Mx 3 _ ((((((((HS21.out).dropRows).dropRows).dropRows).dropRows).dropRows).dropRows).rdM Lx.out)).mono ?_
              rw [HRX.out]
              rintro e w22 ⟨rfl, hN⟩
              have HS22 := hid (HS21.out.quiet hN)
              clear hN
              by_cases hle : rz ≤ rx
              · have ql : decide (rz ≤ rx) = true := decide_eq_true hle
                go_wp2_with fail
                go_ret
                exact ⟨rfl, HS22.out.bel⟩
              · have ql : decide (rz ≤ rx) = false := decide_eq_false hle
                have ez : rz = -1 := HRZX2.out.resolve_left hle
                subst ez
                go_wp2_with fail
                refine (RankMod_c _ _ (timesM Mx My) 3 _ ((((((HS22.out).dropRows).dropRows).dropRows).dropRows).rdM Lz.out)).mono ?_
                rw [HRZ.out]
                rintro e w23 ⟨rfl, hN⟩
                have HS23 := hid (HS22.out.quiet hN)
                clear hN
                go_wp2_with fail
                go_ret
                exact ⟨rfl, HS23.out.bel⟩

theorem own : ownKnob Try.prog.godebug = none := by kernel_rfl
theorem laidOut : laidOutB Try.prog = true := by kernel_rfl

set_option maxRecDepth 100000 in
theorem lifted (os : Os) (started : os.Started) (H : Type) (enc : TypeId × Value → H) :
    ReturnsInHanded {} Try.checked os 6 .any (Rows.fnBordersSpec.pre6 enc Try.prog Try.f6 Rows.fnBordersRow.domain false) (Rows.fnBordersSpec.post enc Try.prog Try.f6 false true false false) := by
  refine returnsInHanded_of_change (C := Try.checked) own started (by kernel_rfl) Try.func6
    (ChangeSpec.witness6 (enc := enc) (C := Try.checked) false ⟨#[], #[.slice none 0 0], []⟩ 8 (by kernel_rfl) (by kernel_rfl) (by kernel_rfl) (by kernel_rfl)) ?_
  intro W base args ds gs before hval0 hW hcnd _
  have hval : ∀ (j : Nat) t v, Try.f6.params[j]? = some t → args[j]? = some v → Value.okWide Try.prog W .any base t v := hval0
  have hW' := hW
  obtain ⟨p, q, hA0, hV, rfl, hfz, hnd⟩ := hW
  have hA : DataW.TrodAll enc Try.prog W 0 (fun _ => true) true Try.f6.params.toList args.toList ds p := hA0
  rw [Try.params6] at hA hval
  obtain ⟨v0, vs0, d0, ds0, p0, q0, hargs, rfl, rfl, h0, r0⟩ := trodAll_cons hA
  obtain ⟨rfl, rfl, rfl⟩ := trodAll_nil r0
  obtain rfl : args = #[v0] := by cases args; simp_all
  obtain ⟨rfl, rfl⟩ := trodVars_none hV
  obtain ⟨s0, len0, cap0, rfl⟩ := okWide_slice Try.underlying22 (hval 0 22 v0 rfl rfl)
  have k0 := h0
  have lt0 : ∀ x ∈ p0, x.block < W.heap.size := by obtain ⟨m, hm⟩ := k0; exact DataW.trod_lt m _ _ _ hm
  obtain ⟨z0, g0⟩ : ∃ zs, Rd W (.slice s0 len0 cap0) (byts zs) := by
    obtain ⟨fuel, hf⟩ := h0
    rcases open_ints Try.underlying22 Try.underlying5 (by kernel_rfl) hf with ⟨hcs, _⟩ | ⟨x, l, c, zs, hcs, _, hl, hm, hz, _, hcell, _⟩
    · simp [Value.cells] at hcs
      obtain ⟨rfl, rfl, rfl⟩ := hcs
      exact ⟨[], .inl ⟨rfl, rfl⟩⟩
    · simp [Value.cells] at hcs
      obtain ⟨rfl, rfl, rfl⟩ := hcs
      exact ⟨_, rdB_of_open hl hm (by simp at hz; omega) hcell⟩
  clear hA0 hval0
  refine (law_c _ z0 W g0).mono fun e W' ⟨he, bel⟩ => ?_
  subst he
  exact ⟨_, rfl, _, _, _, [], _, [], hW', trodAll_mk1 (shut_bool Try.underlying4 _), (trodAll_cons_mk (Below.trod laidOut (by kernel_rfl) (of_decide_eq_true (by kernel_rfl)) k0 bel lt0) trodAll_mk0), rfl, bel.frame _, fun h => by cases h⟩

theorem over : Rows.fnBordersRow.holds Try.pinned (OpenSpec.ofChange Rows.fnBordersSpec) :=
  OpenClaim.holds_of_wide 6 Try.f6 rfl rfl rfl rfl rfl rfl rfl ⟨rfl, rfl, rfl, rfl, rfl⟩ rfl rfl rfl rfl rfl (by kernel_rfl) Try.func6 (by kernel_rfl)
    (of_decide_eq_true (by kernel_rfl)) (by unfold Func.isWrapper; first | (rw [if_pos (by decide +kernel)]; kernel_rfl) | (rw [if_neg (by decide +kernel)]; exact ⟨rfl, rfl⟩))
    (fun os started H enc _ => lifted os started H enc)

theorem proved : Rows.FnBordersSaid :=
  over
end Go.Proofs.Ytjaofbdfhcgmeaa.fnBorders
