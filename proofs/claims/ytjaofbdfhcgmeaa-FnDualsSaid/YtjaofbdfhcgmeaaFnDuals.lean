/-
  The statement Rows.FnDualsSaid: the law answers true at every input, and its arguments read afterwards as before. No further condition.
-/
import Derived.Test.YtjaofbdfhcgmeaaDuDraw
import Derived.ProofKit
import Derived.OpenShut
import Derived.ChangeOld
namespace Go.Proofs.Ytjaofbdfhcgmeaa.fnDuals
open Go.ChangeShapes Go.WideShapes Go.ChangeAt Go.RowKit
set_option linter.unusedVariables false

set_option maxHeartbeats 40000000 in
set_option maxRecDepth 100000 in
theorem law_c (u : Value) (z : List Int) (w : World) (g0 : Rd w u (byts z)) : Calls Try.prog 4 #[u] w fun e w' => e = .returned (.bool true) ∧ Below w.heap.size w w' := by
  by_cases hbig : 1048576 < (z.length : Int)
  · go_enter Try.func4, Try.ntmps4
    go_wp2_with (go_at_call 8; refine (big_c u z _ g0).mono ?_; rw [decide_eq_true hbig]; rintro e w' ⟨rfl, rfl⟩)
    go_ret
    exact ⟨rfl, Below.refl _ _⟩
  · have HS := hid (St.start w)
    have G := hid g0
    have HBG := hid (decide_eq_false hbig)
    clear hbig
    go_enter Try.func4, Try.ntmps4
    go_wp2_with (go_at_call 8; refine (big_c u z _ g0).mono ?_; rw [HBG.out]; rintro e w' ⟨rfl, rfl⟩)
    refine (DrawDualOf_c u z _ g0).mono ?_
    rintro e w1 ⟨n, v, fs, rfl, _, hN⟩
    obtain ⟨p, l, c, rfl⟩ := hN.hd.form
    have hS1 := (HS.out.call1 hN).boxAt n (.slice p l c) 30 (H := w1.heap.size) rfl
    have c0 := hS1.hd.c0
    have c1 := hS1.hd.c1
    have HS1 := hid hS1
    clear hN hS1
    obtain ⟨ok, hok⟩ : ∃ ok, isC n fs = ok := ⟨_, rfl⟩
    have HOK := hid hok
    have qok : (ok != ok) = false := by simp
    obtain ⟨DL, hDL⟩ : ∃ DL, resL ok (dualL n fs) = DL := ⟨_, rfl⟩
    have HDL := hid hDL
    obtain ⟨DN, hDN⟩ : ∃ DN, resN ok n = DN := ⟨_, rfl⟩
    have HDN := hid hDN
    have HC1 : Hid (∀ w1, Rd w1 (.slice p l c) (ints fs) → Calls Try.prog 28 #[cx n (.slice p l c)] w1 fun e w' => ∃ v, e = .returned (.tuple #[cx DN v, .bool ok]) ∧ St w1 w' [⟨v, 3, ints DL⟩]) := fun w1 h => by have := DualOf_c n _ fs w1 h; rwa [hok, hDN, hDL] at this
    have HC2 : Hid (∀ w1, Rd w1 (.slice p l c) (ints fs) → Calls Try.prog 29 #[cx n (.slice p l c)] w1 fun e w' => ∃ v, e = .returned (.tuple #[cx DN v, .bool ok]) ∧ St w1 w' [⟨v, 3, ints DL⟩]) := fun w1 h => by have := sDualOf_c n _ fs w1 h; rwa [hok, hDN, hDL] at this
    have HC3 : Hid (∀ w1, Rd w1 (.slice p l c) (ints fs) → _) := fun w1 h => sHolesMod_c n (.slice p l c) fs 2 w1 h
    have HC4 : Hid (∀ j w1, Rd w1 (.slice p l c) (ints fs) → _) := fun j w1 h => sFacesOfSize_c n (.slice p l c) fs j w1 h
    clear hok hDL hDN
    unfold cx at HC1 HC2 HC3 HC4 ⊢
    go_wp2_with fail
    refine (HC1.out _ HS1.out.tail.hd).mono ?_
    rintro e w2 ⟨vd, rfl, hN⟩
    obtain ⟨p2, l2, c2, rfl⟩ := hN.hd.form
    have hS2 := (HS1.out.call1 hN).boxAt DN (.slice p2 l2 c2) 30 (H := w2.heap.size) rfl
    clear c0 c1
    have c0 := hS2.tail.tail.hd.c0
    have c1 := hS2.tail.tail.hd.c1
    have HS2 := hid hS2
    clear hN hS2
    go_wp2_with fail
    refine (HC2.out _ HS2.out.tail.tail.tail.hd).mono ?_
    rintro e w3 ⟨ve, rfl, hN⟩
    obtain ⟨p3, l3, c3, rfl⟩ := hN.hd.form
    have HS3 := hid ((HS2.out.call1 hN).boxAt DN (.slice p3 l3 c3) 30 (H := w3.heap.size) rfl)
    clear hN c0 c1
    go_wp2_with fail
    refine (DrawComplementOf_c u z _ (HS3.out.old G.out)).mono ?_
    rintro e w4 ⟨n2, s2, rfl, hN⟩
    have HS4 := hid (HS3.out.quiet hN)
    clear hN
    obtain ⟨cc, hcc⟩ : ∃ cc, complB n2 s2 = cc := ⟨_, rfl⟩
    have HCC := hid hcc
    have qcc : (cc != cc) = false := by simp
    clear hcc
    go_wp2_with fail
    refine (DrawIsSelfDual_c u z _ (HS4.out.old G.out)).mono ?_
    rintro e w5 ⟨n3, v3, fs3, rfl, _, hN⟩
    obtain ⟨p4, l4, c4, rfl⟩ := hN.hd.form
    have HS5 := hid ((HS4.out.call1 hN).boxAt n3 (.slice p4 l4 c4) 30 (H := w5.heap.size) rfl)
    clear hN
    have HE1 : Hid (∀ w1, Rd w1 (.slice p4 l4 c4) (ints fs3) → _) := fun w1 h => IsSelfDual_c n3 (.slice p4 l4 c4) fs3 w1 h
    have HE2 : Hid (∀ w1, Rd w1 (.slice p4 l4 c4) (ints fs3) → _) := fun w1 h => sIsSelfDual_c n3 (.slice p4 l4 c4) fs3 w1 h
    obtain ⟨sb, hsb⟩ : ∃ sb, selfB n3 fs3 = sb := ⟨_, rfl⟩
    rw [hsb] at HE1 HE2
    clear hsb
    have qsb : (sb != sb) = false := by simp
    unfold cx at HE1 HE2
    try unfold cx
    go_wp2_with fail
    refine (DrawCoversOf_c u z _ (HS5.out.old G.out)).mono ?_
    rintro e w6 ⟨m, vs, xs, rfl, _, hN⟩
    have HS6 := hid (HS5.out.call1 hN)
    clear hN
    go_wp2_with fail
    refine (CoversOf_c m _ xs _ HS6.out.hd).mono ?_
    rintro e w7 ⟨vc, rfl, hN⟩
    have hS7 := HS6.out.call1 hN
    have k0 := (((((((hS7).tail).tail).tail).tail).tail).tail).hd.c0
    have k1 := (((((((hS7).tail).tail).tail).tail).tail).tail).hd.c1
    have k2 := (((((hS7).tail).tail).tail).tail).hd.c0
    have k3 := (((((hS7).tail).tail).tail).tail).hd.c1
    have k4 := (((hS7).tail).tail).hd.c0
    have k5 := (((hS7).tail).tail).hd.c1
    have HS7 := hid hS7
    clear hN hS7
    have HSC : Hid (∀ w1, Rd w1 (.slice p2 l2 c2) (ints DL) → Rd w1 (.slice p3 l3 c3) (ints DL) → _) := fun w1 h h2 => sameCx_c DN (.slice p2 l2 c2) (.slice p3 l3 c3) DL w1 h h2
    unfold cx at HSC
    go_wp2_with fail
    go_region_held3 (fun w' => w'.cell? ⟨w2.heap.size, 0, none⟩ = some (.int .i64 (DN)) ∧ w'.cell? ⟨w2.heap.size, 1, none⟩ = some (.slice p2 l2 c2) ∧ w'.cell? ⟨w3.heap.size, 0, none⟩ = some (.int .i64 (DN)) ∧ w'.cell? ⟨w3.heap.size, 1, none⟩ = some (.slice p3 l3 c3) ∧ w'.cell? ⟨w5.heap.size, 0, none⟩ = some (.int .i64 (n3)) ∧ w'.cell? ⟨w5.heap.size, 1, none⟩ = some (.slice p4 l4 c4)) (first | go_keep | exact ⟨k0, k1, k2, k3, k4, k5⟩)
      (first
        | (go_at_call 17; refine (same_c _ _ (covB m xs) _ ((HA4.out).tail).hd (HA4.out).hd).mono ?_; rintro e wa5 ⟨rfl, q5, hq⟩; have hA := (HA4.out).drewN q5; rw [← hq] at hA; have hN := hq; clear hq; have k0 := ((((((((hA).tail).tail).tail).tail).tail).tail).tail).hd.c0; have k1 := ((((((((hA).tail).tail).tail).tail).tail).tail).tail).hd.c1; have k2 := ((((((hA).tail).tail).tail).tail).tail).hd.c0; have k3 := ((((((hA).tail).tail).tail).tail).tail).hd.c1; have k4 := ((((hA).tail).tail).tail).hd.c0; have k5 := ((((hA).tail).tail).tail).hd.c1; have HA5 := hid hA; clear hA hN)
        | (go_at_call 38; refine (sCoversOf_c m _ xs _ ((HA3.out).tail).hd).mono ?_; rintro e wa4 ⟨va4, rfl, hN⟩; have hA := (HA3.out).call1 hN; have k0 := ((((((((hA).tail).tail).tail).tail).tail).tail).tail).hd.c0; have k1 := ((((((((hA).tail).tail).tail).tail).tail).tail).tail).hd.c1; have k2 := ((((((hA).tail).tail).tail).tail).tail).hd.c0; have k3 := ((((((hA).tail).tail).tail).tail).tail).hd.c1; have k4 := ((((hA).tail).tail).tail).hd.c0; have k5 := ((((hA).tail).tail).tail).hd.c1; have HA4 := hid hA; clear hA hN)
        | (go_at_call 37; refine (HE2.out _ ((((HA2.out).tail).tail).tail).hd).mono ?_; rintro e wa3 ⟨rfl, hN⟩; have hA := (HA2.out).quiet hN; have k0 := (((((((hA).tail).tail).tail).tail).tail).tail).hd.c0; have k1 := (((((((hA).tail).tail).tail).tail).tail).tail).hd.c1; have k2 := (((((hA).tail).tail).tail).tail).hd.c0; have k3 := (((((hA).tail).tail).tail).tail).hd.c1; have k4 := (((hA).tail).tail).hd.c0; have k5 := (((hA).tail).tail).hd.c1; have HA3 := hid hA; clear hA hN)
        | (go_at_call 36; refine (HE1.out _ ((((HA1.out).tail).tail).tail).hd).mono ?_; rintro e wa2 ⟨rfl, hN⟩; have hA := (HA1.out).quiet hN; have k0 := (((((((hA).tail).tail).tail).tail).tail).tail).hd.c0; have k1 := (((((((hA).tail).tail).tail).tail).tail).tail).hd.c1; have k2 := (((((hA).tail).tail).tail).tail).hd.c0; have k3 := (((((hA).tail).tail).tail).tail).hd.c1; have k4 := (((hA).tail).tail).hd.c0; have k5 := (((hA).tail).tail).hd.c1; have HA2 := hid hA; clear hA hN)
        | (go_at_call 35; refine (sComplementOf_c n2 s2 _).mono ?_; rw [HCC.out]; rintro e w' ⟨rfl, rfl⟩)
        | (go_at_call 34; refine (ComplementOf_c n2 s2 _).mono ?_; rw [HCC.out]; rintro e w' ⟨rfl, rfl⟩)
        | (go_at_call 21; refine (HSC.out _ (((((((((HS7.out.drewN 1)).tail).tail).tail).tail).tail).tail).tail).hd (((((((HS7.out.drewN 1)).tail).tail).tail).tail).tail).hd).mono ?_; rintro e wa1 ⟨rfl, hN⟩; have hA := ((HS7.out.drewN 1)).quiet hN; have k0 := (((((((hA).tail).tail).tail).tail).tail).tail).hd.c0; have k1 := (((((((hA).tail).tail).tail).tail).tail).tail).hd.c1; have k2 := (((((hA).tail).tail).tail).tail).hd.c0; have k3 := (((((hA).tail).tail).tail).tail).hd.c1; have k4 := (((hA).tail).tail).hd.c0; have k5 := (((hA).tail).tail).hd.c1; have HA1 := hid hA; clear hA hN))
    obtain ⟨one, hone⟩ : ∃ one, areB m xs = one := ⟨_, rfl⟩
    have HONE := hid hone
    obtain ⟨AL, hAL⟩ : ∃ AL, resL one (fromL m xs) = AL := ⟨_, rfl⟩
    have HAL := hid hAL
    have hall : AL.length ≤ 448 := by rw [← hAL]; cases one; exact Nat.zero_le _; exact fromL_len m xs
    clear hone hAL
    go_wp2_with fail
    refine (sFromMissing_c m _ xs _ (((HA5.out).tail).tail).hd).mono ?_
    rw [HONE.out, HAL.out]
    rintro e w8 ⟨vf, rfl, hN⟩
    obtain ⟨p5, l5, c5, rfl⟩ := hN.hd.form
    obtain ⟨AN, hAN⟩ : ∃ AN, resN one m = AN := ⟨_, rfl⟩
    rw [hAN]
    clear hAN
    have hS8 := ((HA5.out).call1 hN).boxAt AN (.slice p5 l5 c5) 30 (H := w8.heap.size) rfl
    have HS8 := hid hS8
    clear hN hS8
    try unfold cx
    cases one with
    | false =>
      cases ok with
      | false =>
        go_wp2_with fail
        go_ret
        exact ⟨rfl, (HS8.out).bel⟩
      | true =>
        have HOC : Hid (IsC n fs) := isC_iff.1 HOK.out
        have edn : DN = n := HDN.out.symm
        subst edn
        have HDC : Hid (isC DN DL = true) := by have := dual_isC HOC.out; rw [← HDL.out]; exact isC_iff.2 this
        have HDD : Hid (dualL DN DL = fs) := by rw [← HDL.out]; exact dual_dual HOC.out
        have HE1 : Hid (∀ w1, Rd w1 (.slice p2 l2 c2) (ints DL) → Calls Try.prog 28 #[cx DN (.slice p2 l2 c2)] w1 fun e w' => ∃ v, e = .returned (.tuple #[cx DN v, .bool true]) ∧ St w1 w' [⟨v, 3, ints fs⟩]) := fun w1 h => by have := DualOf_c DN _ DL w1 h; rw [HDC.out] at this; simp only [resN, resL, if_true, HDD.out] at this; exact this
        have HE2 : Hid (∀ w1, Rd w1 (.slice p2 l2 c2) (ints DL) → _) := fun w1 h => sHolesMod_c DN (.slice p2 l2 c2) DL 2 w1 h
        have HE3 : Hid (∀ j w1, Rd w1 (.slice p2 l2 c2) (ints DL) → _) := fun j w1 h => sFacesOfSize_c DN (.slice p2 l2 c2) DL j w1 h
        unfold cx at HE1 HE2 HE3
        have k0 := ((((((((((HS8.out).tail).tail).tail).tail).tail).tail).tail).tail).tail).hd.c0
        have k1 := ((((((((((HS8.out).tail).tail).tail).tail).tail).tail).tail).tail).tail).hd.c1
        go_wp2_with fail
        refine (HE1.out _ (((((((((((HS8.out).tail).tail).tail).tail).tail).tail).tail).tail).tail).tail).hd).mono ?_
        rintro e w11 ⟨vb, rfl, hN⟩
        obtain ⟨p6, l6, c6, rfl⟩ := hN.hd.form
        have hS11 := ((HS8.out).call1 hN).boxAt DN (.slice p6 l6 c6) 30 (H := w11.heap.size) rfl
        have j0 := hS11.hd.c0
        have j1 := hS11.hd.c1
        have x0 := ((((((((((((((hS11).tail).tail).tail).tail).tail).tail).tail).tail).tail).tail).tail).tail).tail).hd.c0
        have x1 := ((((((((((((((hS11).tail).tail).tail).tail).tail).tail).tail).tail).tail).tail).tail).tail).tail).hd.c1
        have HS11 := hid hS11
        clear hN hS11 k0 k1
        try unfold cx
        have HSB : Hid (∀ w1, Rd w1 (.slice p6 l6 c6) (ints fs) → Rd w1 (.slice p l c) (ints fs) → _) := fun w1 h h2 => sameCx_c DN (.slice p6 l6 c6) (.slice p l c) fs w1 h h2
        unfold cx at HSB
        go_wp2_with fail
        refine (HSB.out _ ((HS11.out).tail).hd (((((((((((((((HS11.out).tail).tail).tail).tail).tail).tail).tail).tail).tail).tail).tail).tail).tail).tail).hd).mono ?_
        rintro e w12 ⟨rfl, hN⟩
        have hS12 := HS11.out.quiet hN
        clear j0 j1 x0 x1
        have x0 := ((((((((((((((hS12).tail).tail).tail).tail).tail).tail).tail).tail).tail).tail).tail).tail).tail).hd.c0
        have x1 := ((((((((((((((hS12).tail).tail).tail).tail).tail).tail).tail).tail).tail).tail).tail).tail).tail).hd.c1
        have HS12 := hid hS12
        clear hN hS12
        go_wp2_with fail
        refine (HC3.out _ (((((((((((((((HS12.out).tail).tail).tail).tail).tail).tail).tail).tail).tail).tail).tail).tail).tail).tail).hd).mono ?_
        obtain ⟨HA, hHA⟩ : ∃ HA, holesB DN fs 2 = HA := ⟨_, rfl⟩
        have HHA := hid hHA
        rw [hHA]
        clear hHA
        rintro e w13 ⟨vha, rfl, hN⟩
        have hS13 := HS12.out.call1 hN
        have k0 := (((((((((((((hS13).tail).tail).tail).tail).tail).tail).tail).tail).tail).tail).tail).tail).hd.c0
        have k1 := (((((((((((((hS13).tail).tail).tail).tail).tail).tail).tail).tail).tail).tail).tail).tail).hd.c1
        have HS13 := hid hS13
        clear hN hS13 x0 x1
        go_wp2_with fail
        refine (HE2.out _ ((((((((((((((HS13.out).tail).tail).tail).tail).tail).tail).tail).tail).tail).tail).tail).tail).tail).hd).mono ?_
        obtain ⟨HB, hHB⟩ : ∃ HB, holesB DN DL 2 = HB := ⟨_, rfl⟩
        have HHB := hid hHB
        rw [hHB]
        clear hHB
        rintro e w14 ⟨vhb, rfl, hN⟩
        have hS14 := HS13.out.call1 hN
        have x0 := ((((((((((((((((hS14).tail).tail).tail).tail).tail).tail).tail).tail).tail).tail).tail).tail).tail).tail).tail).hd.c0
        have HS14 := hid hS14
        clear hN hS14 k0 k1
        have RXX := hid (((((((((((((((((HS14.out).tail).tail).tail).tail).tail).tail).tail).tail).tail).tail).tail).tail).tail).tail).tail).hd)
        have RXD := hid (((((((((((((((HS14.out).tail).tail).tail).tail).tail).tail).tail).tail).tail).tail).tail).tail).tail).hd)
        have RXc := hid ((((((((((((((((((HS14.out).tail).tail).tail).tail).tail).tail).tail).tail).tail).tail).tail).tail).tail).tail).tail).tail).hd)
        have RXd := hid ((((((((((((((((HS14.out).tail).tail).tail).tail).tail).tail).tail).tail).tail).tail).tail).tail).tail).tail).hd)
        have RXha := hid (((HS14.out).tail).hd)
        have RXhb := hid ((HS14.out).hd)
        have hn1 : 1 ≤ DN := HOC.out.1
        have hn6 : DN ≤ 6 := HOC.out.2.1
        go_wp2_with fail
        go_loopw [22] (fun i wr => ∃ k : Nat, (k : Int) ≤ DN + 1 ∧ i = .int .i64 k ∧ Below w14.heap.size w14 wr) (fun i _ => 10 - (intOf i).toNat)
        case atStart => exact ⟨0, by omega, rfl, Below.refl _ _⟩
        case round =>
          obtain ⟨k, hk, rfl, hb⟩ := hrel
          have hS15 := HS14.out.quiet hb
          have HS15 := hid hS15
          have HQ0 := hid ((St.start w14).quiet hb)
          have x0 := ((((((((((((((((hS15).tail).tail).tail).tail).tail).tail).tail).tail).tail).tail).tail).tail).tail).tail).tail).hd.c0
          have x1 := ((((((((((((((((hS15).tail).tail).tail).tail).tail).tail).tail).tail).tail).tail).tail).tail).tail).tail).tail).hd.c1
          have y0 := ((((((((((((((hS15).tail).tail).tail).tail).tail).tail).tail).tail).tail).tail).tail).tail).tail).hd.c0
          have y1 := ((((((((((((((hS15).tail).tail).tail).tail).tail).tail).tail).tail).tail).tail).tail).tail).tail).hd.c1
          clear hS15 hb
          by_cases hle : (k : Int) ≤ DN
          · have q0 : decide ((k : Int) ≤ DN) = true := decide_eq_true hle
            obtain ⟨FA, hFA⟩ : ∃ FA, fosB DN fs (k : Int) = FA := ⟨_, rfl⟩
            obtain ⟨FB, hFB⟩ : ∃ FB, fosB DN DL (DN - (k : Int)) = FB := ⟨_, rfl⟩
            obtain ⟨CH, hCH⟩ : ∃ CH, chooseB DN (k : Int) = CH := ⟨_, rfl⟩
            have hsum : (FA.length : Int) + (FB.length : Int) = CH := by have := dual_count HOC.out hle; rw [← hFA, ← hFB, ← hCH]; have e := HDL.out; rw [← e]; exact this
            have fa64 : FA.length ≤ 64 := by rw [← hFA]; exact fosB_len _ _ _
            have fb64 : FB.length ≤ 64 := by rw [← hFB]; exact fosB_len _ _ _
            have HCa : Hid (∀ w1, Rd w1 (.slice p l c) (ints fs) → Calls Try.prog 42 #[.agg #[.int .i64 DN, .slice p l c], .int .i64 k] w1 fun e w' => ∃ v, e = .returned v ∧ St w1 w' [⟨v, 3, ints FA⟩]) := fun w1 h => by have := HC4.out k w1 h; rwa [hFA] at this
            have HCb : Hid (∀ w1, Rd w1 (.slice p2 l2 c2) (ints DL) → Calls Try.prog 42 #[.agg #[.int .i64 DN, .slice p2 l2 c2], .int .i64 (DN - k)] w1 fun e w' => ∃ v, e = .returned v ∧ St w1 w' [⟨v, 3, ints FB⟩]) := fun w1 h => by have := HE3.out (DN - k) w1 h; rwa [hFB] at this
            have HCh : Hid (∀ w1, Calls Try.prog 26 #[.int .i64 DN, .int .i64 k] w1 fun e w' => e = .returned (.int .i64 CH) ∧ w1 = w') := fun w1 => by have := sChoose_c DN k w1; rwa [hCH] at this
            have e1 : IntKind.i64.wrap (DN - (k : Int)) = DN - (k : Int) := IntWalk.i64_in _ (by omega)
            have e2 : IntKind.i64.wrap (DN - 1) = DN - 1 := IntWalk.i64_in _ (by omega)
            have e3 : IntKind.i64.wrap (DN - 1 - (k : Int)) = DN - 1 - (k : Int) := IntWalk.i64_in _ (by omega)
            have e4 : IntKind.i64.wrap ((FA.length : Int) + (FB.length : Int)) = CH := by rw [← hsum]; exact IntWalk.i64_in _ (by omega)
            have qch : (CH != CH) = false := by simp
            have lha := (((HS15.out).tail).hd).iln tI
            have lhb := ((HS15.out).hd).iln tI
            have hdh : 0 < HB.length → atB HA (k : Int) = atB HB (DN - 1 - (k : Int)) := fun h => by have e := HDL.out; rw [← HHA.out, ← HHB.out, ← e]; exact dual_holes HOC.out hle (by have := HHB.out; rw [← e] at this; rw [show holesB DN (dualL DN fs) 2 = HB from this]; exact h)
            have HDH := hid hdh
            clear hdh hFA hFB hCH hsum
            by_cases ha0 : 0 < HA.length
            · have qa : decide ((0 : Int) < (HA.length : Int)) = true := decide_eq_true (by omega)
              by_cases hb0 : 0 < HB.length
              · have qb : decide ((0 : Int) < (HB.length : Int)) = true := decide_eq_true (by omega)
                obtain ⟨tt, htt⟩ : ∃ tt, atB HA (k : Int) = tt := ⟨_, rfl⟩
                have htb : atB HB (DN - 1 - (k : Int)) = tt := by rw [← HDH.out hb0]; exact htt
                have qtt : (tt != tt) = false := by simp
                have HTa : Hid (∀ w1, Rd w1 vha (ints HA) → Calls Try.prog 43 #[vha, .int .i64 k] w1 fun e w' => e = .returned (.int .i64 tt) ∧ w1 = w') := fun w1 h => by have := at22_c _ HA k w1 h; rwa [htt] at this
                have HTb : Hid (∀ w1, Rd w1 vhb (ints HB) → Calls Try.prog 43 #[vhb, .int .i64 (DN - 1 - k)] w1 fun e w' => e = .returned (.int .i64 tt) ∧ w1 = w') := fun w1 h => by have := at22_c _ HB (DN - 1 - k) w1 h; rwa [htb] at this
                clear htt htb
                go_wp2_with fail
                go_region_held3 (fun w' => w'.cell? ⟨w1.heap.size, 0, none⟩ = some (.int .i64 (DN)) ∧ w'.cell? ⟨w1.heap.size, 1, none⟩ = some (.slice p l c) ∧ w'.cell? ⟨w2.heap.size, 0, none⟩ = some (.int .i64 (DN)) ∧ w'.cell? ⟨w2.heap.size, 1, none⟩ = some (.slice p2 l2 c2)) (first | go_keep | exact ⟨m0, m1, m2, m3⟩ | exact ⟨n0, n1, n2, n3⟩ | exact ⟨r0, r1, r2, r3⟩ | exact ⟨s0, s1, s2, s3⟩ | exact ⟨x0, x1, y0, y1⟩)
                  (first
                    | (go_at_call_of 43 vha; refine (HTa.out _ (HCD.out.old RXha.out)).mono ?_; rintro e w' ⟨rfl, rfl⟩)
                    | (go_at_call_of 43 vhb; refine (HTb.out _ (HCD.out.old RXhb.out)).mono ?_; rintro e w' ⟨rfl, rfl⟩)
                    | (go_at_call_of 43 vha; refine (HTa.out _ (HDC.out.old RXha.out)).mono ?_; rintro e w' ⟨rfl, rfl⟩)
                    | (go_at_call_of 43 vhb; refine (HTb.out _ (HDC.out.old RXhb.out)).mono ?_; rintro e w' ⟨rfl, rfl⟩)
                    | (go_at_call_of 42 (Value.agg #[Value.int IntKind.i64 DN, Value.slice p2 l2 c2]); refine (HCb.out _ (HC1st.out.old RXd.out)).mono ?_; rintro e wcd ⟨vcd, rfl, hN⟩; have hA := (HC1st.out).call1 hN; have lcd := hA.hd.iln tI; have n0 := (hA.old RXX.out).c0; have n1 := (hA.old RXX.out).c1; have n2 := (hA.old RXD.out).c0; have n3 := (hA.old RXD.out).c1; have HCD := hid hA; clear hA hN)
                    | (go_at_call_of 42 (Value.agg #[Value.int IntKind.i64 DN, Value.slice p l c]); refine (HCa.out _ (HD1st.out.old RXc.out)).mono ?_; rintro e wdc ⟨vdc, rfl, hN⟩; have hA := (HD1st.out).call1 hN; have ldc := hA.hd.iln tI; have s0 := (hA.old RXX.out).c0; have s1 := (hA.old RXX.out).c1; have s2 := (hA.old RXD.out).c0; have s3 := (hA.old RXD.out).c1; have HDC := hid hA; clear hA hN)
                    | (go_at_call_of 42 (Value.agg #[Value.int IntKind.i64 DN, Value.slice p l c]); refine (HCa.out _ ((HQ0.out.drewN 1).old RXc.out)).mono ?_; rintro e wc1 ⟨vc1, rfl, hN⟩; have hA := ((HQ0.out.drewN 1)).call1 hN; have lc1 := hA.hd.iln tI; have m0 := (hA.old RXX.out).c0; have m1 := (hA.old RXX.out).c1; have m2 := (hA.old RXD.out).c0; have m3 := (hA.old RXD.out).c1; have HC1st := hid hA; clear hA hN)
                    | (go_at_call_of 42 (Value.agg #[Value.int IntKind.i64 DN, Value.slice p2 l2 c2]); refine (HCb.out _ ((HQ0.out.drewN 1).old RXd.out)).mono ?_; rintro e wd1 ⟨vd1, rfl, hN⟩; have hA := ((HQ0.out.drewN 1)).call1 hN; have ld1 := hA.hd.iln tI; have r0 := (hA.old RXX.out).c0; have r1 := (hA.old RXX.out).c1; have r2 := (hA.old RXD.out).c0; have r3 := (hA.old RXD.out).c1; have HD1st := hid hA; clear hA hN)
                    | (go_at_call 26; refine (HCh.out _).mono ?_; rintro e w' ⟨rfl, rfl⟩))
                all_goals
                  go_wp2_with fail
                  go_roundw
                  case rel => first | exact ⟨k + 1, by omega, by go_num, HCD.out.bel⟩ | exact ⟨k + 1, by omega, by go_num, HDC.out.bel⟩
                  case measure => simp [intOf]; omega
              · have qb : decide ((0 : Int) < (HB.length : Int)) = false := decide_eq_false (by omega)
                go_wp2_with fail
                refine wp_region_held_drew (S := fun w' => w'.cell? ⟨w1.heap.size, 0, none⟩ = some (.int .i64 (DN)) ∧ w'.cell? ⟨w1.heap.size, 1, none⟩ = some (.slice p l c) ∧ w'.cell? ⟨w2.heap.size, 0, none⟩ = some (.int .i64 (DN)) ∧ w'.cell? ⟨w2.heap.size, 1, none⟩ = some (.slice p2 l2 c2)) (by kernel_rfl) (by first | go_keep | exact ⟨x0, x1, y0, y1⟩) (fun hHeld => ?_)
                refine tkL (i := 0) (v := ?_) rfl (by kernel_rfl) (fun _ _ _ h => h) (by rfl) ?_ hHeld ?_
                rotate_left
                · (intro w hSw; (try dsimp only at hSw); go_simp; (try with_reducible rfl))
                try simp only [Act.put, List.setIfInBounds_toArray, List.set_cons_zero, List.set_cons_succ]
                refine tkL (i := 1) (v := ?_) rfl (by kernel_rfl) (fun _ _ _ h => h) (by rfl) ?_ hHeld ?_
                rotate_left
                · (intro w hSw; (try dsimp only at hSw); go_simp; (try with_reducible rfl))
                try simp only [Act.put, List.setIfInBounds_toArray, List.set_cons_zero, List.set_cons_succ]
                refine tkL (i := 4) (v := ?_) rfl (by kernel_rfl) (fun _ _ _ h => h) (by rfl) ?_ hHeld ?_
                rotate_left
                · (intro w hSw; (try dsimp only at hSw); go_simp; (try with_reducible rfl))
                try simp only [Act.put, List.setIfInBounds_toArray, List.set_cons_zero, List.set_cons_succ]
                refine tkL (i := 5) (v := ?_) rfl (by kernel_rfl) (fun _ _ _ h => h) (by rfl) ?_ hHeld ?_
                rotate_left
                · (intro w hSw; (try dsimp only at hSw); go_simp; (try with_reducible rfl))
                try simp only [Act.put, List.setIfInBounds_toArray, List.set_cons_zero, List.set_cons_succ]
                refine tkL (i := 6) (v := ?_) rfl (by kernel_rfl) (fun _ _ _ h => h) (by rfl) ?_ hHeld ?_
                rotate_left
                · (intro w hSw; (try dsimp only at hSw); go_simp; (try with_reducible rfl))
                try simp only [Act.put, List.setIfInBounds_toArray, List.set_cons_zero, List.set_cons_succ]
                refine tkL (i := 7) (v := ?_) rfl (by kernel_rfl) (fun _ _ _ h => h) (by rfl) ?_ hHeld ?_
                rotate_left
                · (intro w hSw; (try dsimp only at hSw); go_simp; (try with_reducible rfl))
                try simp only [Act.put, List.setIfInBounds_toArray, List.set_cons_zero, List.set_cons_succ]
                refine tkL (i := 8) (v := ?_) rfl (by kernel_rfl) (fun _ _ _ h => h) (by rfl) ?_ hHeld ?_
                rotate_left
                · (intro w hSw; (try dsimp only at hSw); go_simp; (try with_reducible rfl))
                try simp only [Act.put, List.setIfInBounds_toArray, List.set_cons_zero, List.set_cons_succ]
                refine tkL (i := 12) (v := ?_) rfl (by kernel_rfl) (fun _ _ _ h => h) (by rfl) ?_ hHeld ?_
                rotate_left
                · (intro w hSw; (try dsimp only at hSw); go_simp; (try with_reducible rfl))
                try simp only [Act.put, List.setIfInBounds_toArray, List.set_cons_zero, List.set_cons_succ]
                refine tkL (i := 13) (v := ?_) rfl (by kernel_rfl) (fun _ _ _ h => h) (by rfl) ?_ hHeld ?_
                rotate_left
                · (intro w hSw; (try dsimp only at hSw); go_simp; (try with_reducible rfl))
                try simp only [Act.put, List.setIfInBounds_toArray, List.set_cons_zero, List.set_cons_succ]
                refine tkL (i := 14) (v := ?_) rfl (by kernel_rfl) (fun _ _ _ h => h) (by rfl) ?_ hHeld ?_
                rotate_left
                · (intro w hSw; (try dsimp only at hSw); go_simp; (try with_reducible rfl))
                try simp only [Act.put, List.setIfInBounds_toArray, List.set_cons_zero, List.set_cons_succ]
                refine wpAnyH_ready (rs := [2]) (by kernel_rfl) (by simp) ?_
                refine consL rfl (fun K hK => ?_) ?_
                · skip
                  go_simp
                  go_at_call 42; refine (HCa.out _ ((HQ0.out.drewN 1).old RXc.out)).mono ?_
                  rintro e wa ⟨va, rfl, hN⟩
                  have hA := ((HQ0.out.drewN 1)).call1 hN
                  have lva := hA.hd.iln tI
                  have f0 := (hA.old RXX.out).c0; have f1 := (hA.old RXX.out).c1; have f2 := (hA.old RXD.out).c0; have f3 := (hA.old RXD.out).c1
                  have H2 := hid hA
                  clear hA hN
                  go_simp
                  refine hK.out _ _ ⟨f0, f1, f2, f3⟩ (fun hHeld2 => ?_)
                  clear hK K hHeld
                  try simp only [Act.put, List.setIfInBounds_toArray, List.set_cons_zero, List.set_cons_succ]
                  have hHeld := hHeld2
                  refine tkL (i := 3) (v := ?_) rfl (by kernel_rfl) (fun _ _ _ h => h) (by rfl) ?_ hHeld ?_
                  rotate_left
                  · (intro w hSw; (try dsimp only at hSw); go_simp; (try with_reducible rfl))
                  try simp only [Act.put, List.setIfInBounds_toArray, List.set_cons_zero, List.set_cons_succ]
                  refine wpAnyH_ready (rs := [9]) (by kernel_rfl) (by simp) ?_
                  refine consL rfl (fun K hK => ?_) ?_
                  · skip
                    go_simp
                    go_at_call 42; refine (HCb.out _ (H2.out.old RXd.out)).mono ?_
                    rintro e wb ⟨vb2, rfl, hN⟩
                    have hA := (H2.out).call1 hN
                    have lvb := hA.hd.iln tI
                    have f0 := (hA.old RXX.out).c0; have f1 := (hA.old RXX.out).c1; have f2 := (hA.old RXD.out).c0; have f3 := (hA.old RXD.out).c1
                    have H29 := hid hA
                    clear hA hN
                    go_simp
                    refine hK.out _ _ ⟨f0, f1, f2, f3⟩ (fun hHeld2 => ?_)
                    clear hK K hHeld
                    try simp only [Act.put, List.setIfInBounds_toArray, List.set_cons_zero, List.set_cons_succ]
                    have hHeld := hHeld2
                    refine tkL (i := 10) (v := ?_) rfl (by kernel_rfl) (fun _ _ _ h => h) (by rfl) ?_ hHeld ?_
                    rotate_left
                    · (intro w hSw; (try dsimp only at hSw); go_simp; (try with_reducible rfl))
                    try simp only [Act.put, List.setIfInBounds_toArray, List.set_cons_zero, List.set_cons_succ]
                    refine tkL (i := 11) (v := ?_) rfl (by kernel_rfl) (fun _ _ _ h => h) (by rfl) ?_ hHeld ?_
                    rotate_left
                    · (intro w hSw; (try dsimp only at hSw); go_simp; (try with_reducible rfl))
                    try simp only [Act.put, List.setIfInBounds_toArray, List.set_cons_zero, List.set_cons_succ]
                    refine wpAnyH_ready (rs := [15]) (by kernel_rfl) (by simp) ?_
                    refine consL rfl (fun K hK => ?_) ?_
                    · skip
                      go_simp
                      go_at_call 26; refine (HCh.out _).mono ?_
                      rintro e w' ⟨rfl, rfl⟩
                      go_simp
                      refine hK.out _ _ hHeld (fun hHeld2 => ?_)
                      clear hK K
                      try simp only [Act.put, List.setIfInBounds_toArray, List.set_cons_zero, List.set_cons_succ]
                      have hHeld := hHeld2
                      refine tkL (i := 16) (v := ?_) rfl (by kernel_rfl) (fun _ _ _ h => h) (by rfl) ?_ hHeld ?_
                      rotate_left
                      · (intro w hSw; (try dsimp only at hSw); go_simp; (try with_reducible rfl))
                      try simp only [Act.put, List.setIfInBounds_toArray, List.set_cons_zero, List.set_cons_succ]
                      refine tkL (i := 17) (v := ?_) rfl (by kernel_rfl) (fun _ _ _ h => h) (by rfl) ?_ hHeld ?_
                      rotate_left
                      · (intro w hSw; (try dsimp only at hSw); go_simp; (try with_reducible rfl))
                      try simp only [Act.put, List.setIfInBounds_toArray, List.set_cons_zero, List.set_cons_succ]
                      refine tkL (i := 18) (v := ?_) rfl (by kernel_rfl) (fun _ _ _ h => h) (by rfl) ?_ hHeld ?_
                      rotate_left
                      · (intro w hSw; (try dsimp only at hSw); go_simp; (try with_reducible rfl))
                      try simp only [Act.put, List.setIfInBounds_toArray, List.set_cons_zero, List.set_cons_succ]
                      refine tkL (i := 19) (v := ?_) rfl (by kernel_rfl) (fun _ _ _ h => h) (by rfl) ?_ hHeld ?_
                      rotate_left
                      · (intro w hSw; (try dsimp only at hSw); go_simp; (try with_reducible rfl))
                      try simp only [Act.put, List.setIfInBounds_toArray, List.set_cons_zero, List.set_cons_succ]
                      refine tkL (i := 20) (v := ?_) rfl (by kernel_rfl) (fun _ _ _ h => h) (by rfl) ?_ hHeld ?_
                      rotate_left
                      · (intro w hSw; (try dsimp only at hSw); go_simp; (try with_reducible rfl))
                      try simp only [Act.put, List.setIfInBounds_toArray, List.set_cons_zero, List.set_cons_succ]
                      refine tkL (i := 21) (v := ?_) rfl (by kernel_rfl) (fun _ _ _ h => h) (by rfl) ?_ hHeld ?_
                      rotate_left
                      · (intro w hSw; (try dsimp only at hSw); go_simp; (try with_reducible rfl))
                      try simp only [Act.put, List.setIfInBounds_toArray, List.set_cons_zero, List.set_cons_succ]
                      refine tkL (i := 22) (v := ?_) rfl (by kernel_rfl) (fun _ _ _ h => h) (by rfl) ?_ hHeld ?_
                      rotate_left
                      · (intro w hSw; (try dsimp only at hSw); go_simp; (try with_reducible rfl))
                      try simp only [Act.put, List.setIfInBounds_toArray, List.set_cons_zero, List.set_cons_succ]
                      refine tkL (i := 23) (v := ?_) rfl (by kernel_rfl) (fun _ _ _ h => h) (by rfl) ?_ hHeld ?_
                      rotate_left
                      · (intro w hSw; (try dsimp only at hSw); go_simp; (try with_reducible rfl))
                      try simp only [Act.put, List.setIfInBounds_toArray, List.set_cons_zero, List.set_cons_succ]
                      refine tkL (i := 24) (v := ?_) rfl (by kernel_rfl) (fun _ _ _ h => h) (by rfl) ?_ hHeld ?_
                      rotate_left
                      · (intro w hSw; (try dsimp only at hSw); go_simp; (try with_reducible rfl))
                      try simp only [Act.put, List.setIfInBounds_toArray, List.set_cons_zero, List.set_cons_succ]
                      refine tkL (i := 25) (v := ?_) rfl (by kernel_rfl) (fun _ _ _ h => h) (by rfl) ?_ hHeld ?_
                      rotate_left
                      · (intro w hSw; (try dsimp only at hSw); go_simp; (try with_reducible rfl))
                      try simp only [Act.put, List.setIfInBounds_toArray, List.set_cons_zero, List.set_cons_succ]
                      refine tkL (i := 26) (v := ?_) rfl (by kernel_rfl) (fun _ _ _ h => h) (by rfl) ?_ hHeld ?_
                      rotate_left
                      · (intro w hSw; (try dsimp only at hSw); go_simp; (try with_reducible rfl))
                      try simp only [Act.put, List.setIfInBounds_toArray, List.set_cons_zero, List.set_cons_succ]
                      refine tkR (i := 27) rfl (by kernel_rfl) (fun _ _ _ h => h) (by rfl) hHeld ?_
                      try simp only [Act.put, List.setIfInBounds_toArray, List.set_cons_zero, List.set_cons_succ]
                      refine tkR (i := 28) rfl (by kernel_rfl) (fun _ _ _ h => h) (by rfl) hHeld ?_
                      refine tkR (i := 29) rfl (by kernel_rfl) (fun _ _ _ h => h) (by rfl) hHeld ?_
                      refine tkR (i := 30) rfl (by kernel_rfl) (fun _ _ _ h => h) (by rfl) hHeld ?_
                      try simp only [Act.put, List.setIfInBounds_toArray, List.set_cons_zero, List.set_cons_succ]
                      refine tkR (i := 31) rfl (by kernel_rfl) (fun _ _ _ h => h) (by rfl) hHeld ?_
                      refine tkR (i := 32) rfl (by kernel_rfl) (fun _ _ _ h => h) (by rfl) hHeld ?_
                      refine tkR (i := 33) rfl (by kernel_rfl) (fun _ _ _ h => h) (by rfl) hHeld ?_
                      try simp only [Act.put, List.setIfInBounds_toArray, List.set_cons_zero, List.set_cons_succ]
                      refine tkR (i := 34) rfl (by kernel_rfl) (fun _ _ _ h => h) (by rfl) hHeld ?_
                      refine tkR (i := 35) rfl (by kernel_rfl) (fun _ _ _ h => h) (by rfl) hHeld ?_
                      refine tkR (i := 36) rfl (by kernel_rfl) (fun _ _ _ h => h) (by rfl) hHeld ?_
                      try simp only [Act.put, List.setIfInBounds_toArray, List.set_cons_zero, List.set_cons_succ]
                      refine tkR (i := 37) rfl (by kernel_rfl) (fun _ _ _ h => h) (by rfl) hHeld ?_
                      refine tkL (i := 38) (v := ?_) rfl (by kernel_rfl) (fun _ _ _ h => h) (by rfl) ?_ hHeld ?_
                      rotate_left
                      · (intro w hSw; (try dsimp only at hSw); go_simp; (try with_reducible rfl))
                      try simp only [Act.put, List.setIfInBounds_toArray, List.set_cons_zero, List.set_cons_succ]
                      refine tkL (i := 39) (v := ?_) rfl (by kernel_rfl) (fun _ _ _ h => h) (by rfl) ?_ hHeld ?_
                      rotate_left
                      · (intro w hSw; (try dsimp only at hSw); go_simp; (try with_reducible rfl))
                      try simp only [Act.put, List.setIfInBounds_toArray, List.set_cons_zero, List.set_cons_succ]
                      refine wpAnyH_done (by kernel_rfl) ?_ _
                      go_wp2_with fail
                      go_roundw
                      case rel => exact ⟨k + 1, by omega, by go_num, (H29.out).bel⟩
                      case measure => simp [intOf]; omega
                    exact AllReadyH.nil
                  exact AllReadyH.nil
                exact AllReadyH.nil
            · have qa : decide ((0 : Int) < (HA.length : Int)) = false := decide_eq_false (by omega)
              go_wp2_with fail
              refine wp_region_held_drew (S := fun w' => w'.cell? ⟨w1.heap.size, 0, none⟩ = some (.int .i64 (DN)) ∧ w'.cell? ⟨w1.heap.size, 1, none⟩ = some (.slice p l c) ∧ w'.cell? ⟨w2.heap.size, 0, none⟩ = some (.int .i64 (DN)) ∧ w'.cell? ⟨w2.heap.size, 1, none⟩ = some (.slice p2 l2 c2)) (by kernel_rfl) (by first | go_keep | exact ⟨x0, x1, y0, y1⟩) (fun hHeld => ?_)
              refine tkL (i := 0) (v := ?_) rfl (by kernel_rfl) (fun _ _ _ h => h) (by rfl) ?_ hHeld ?_
              rotate_left
              · (intro w hSw; (try dsimp only at hSw); go_simp; (try with_reducible rfl))
              try simp only [Act.put, List.setIfInBounds_toArray, List.set_cons_zero, List.set_cons_succ]
              refine tkL (i := 1) (v := ?_) rfl (by kernel_rfl) (fun _ _ _ h => h) (by rfl) ?_ hHeld ?_
              rotate_left
              · (intro w hSw; (try dsimp only at hSw); go_simp; (try with_reducible rfl))
              try simp only [Act.put, List.setIfInBounds_toArray, List.set_cons_zero, List.set_cons_succ]
              refine tkL (i := 4) (v := ?_) rfl (by kernel_rfl) (fun _ _ _ h => h) (by rfl) ?_ hHeld ?_
              rotate_left
              · (intro w hSw; (try dsimp only at hSw); go_simp; (try with_reducible rfl))
              try simp only [Act.put, List.setIfInBounds_toArray, List.set_cons_zero, List.set_cons_succ]
              refine tkL (i := 5) (v := ?_) rfl (by kernel_rfl) (fun _ _ _ h => h) (by rfl) ?_ hHeld ?_
              rotate_left
              · (intro w hSw; (try dsimp only at hSw); go_simp; (try with_reducible rfl))
              try simp only [Act.put, List.setIfInBounds_toArray, List.set_cons_zero, List.set_cons_succ]
              refine tkL (i := 6) (v := ?_) rfl (by kernel_rfl) (fun _ _ _ h => h) (by rfl) ?_ hHeld ?_
              rotate_left
              · (intro w hSw; (try dsimp only at hSw); go_simp; (try with_reducible rfl))
              try simp only [Act.put, List.setIfInBounds_toArray, List.set_cons_zero, List.set_cons_succ]
              refine tkL (i := 7) (v := ?_) rfl (by kernel_rfl) (fun _ _ _ h => h) (by rfl) ?_ hHeld ?_
              rotate_left
              · (intro w hSw; (try dsimp only at hSw); go_simp; (try with_reducible rfl))
              try simp only [Act.put, List.setIfInBounds_toArray, List.set_cons_zero, List.set_cons_succ]
              refine tkL (i := 8) (v := ?_) rfl (by kernel_rfl) (fun _ _ _ h => h) (by rfl) ?_ hHeld ?_
              rotate_left
              · (intro w hSw; (try dsimp only at hSw); go_simp; (try with_reducible rfl))
              try simp only [Act.put, List.setIfInBounds_toArray, List.set_cons_zero, List.set_cons_succ]
              refine tkL (i := 12) (v := ?_) rfl (by kernel_rfl) (fun _ _ _ h => h) (by rfl) ?_ hHeld ?_
              rotate_left
              · (intro w hSw; (try dsimp only at hSw); go_simp; (try with_reducible rfl))
              try simp only [Act.put, List.setIfInBounds_toArray, List.set_cons_zero, List.set_cons_succ]
              refine tkL (i := 13) (v := ?_) rfl (by kernel_rfl) (fun _ _ _ h => h) (by rfl) ?_ hHeld ?_
              rotate_left
              · (intro w hSw; (try dsimp only at hSw); go_simp; (try with_reducible rfl))
              try simp only [Act.put, List.setIfInBounds_toArray, List.set_cons_zero, List.set_cons_succ]
              refine tkL (i := 14) (v := ?_) rfl (by kernel_rfl) (fun _ _ _ h => h) (by rfl) ?_ hHeld ?_
              rotate_left
              · (intro w hSw; (try dsimp only at hSw); go_simp; (try with_reducible rfl))
              try simp only [Act.put, List.setIfInBounds_toArray, List.set_cons_zero, List.set_cons_succ]
              refine wpAnyH_ready (rs := [2]) (by kernel_rfl) (by simp) ?_
              refine consL rfl (fun K hK => ?_) ?_
              · skip
                go_simp
                go_at_call 42; refine (HCa.out _ ((HQ0.out.drewN 1).old RXc.out)).mono ?_
                rintro e wa ⟨va, rfl, hN⟩
                have hA := ((HQ0.out.drewN 1)).call1 hN
                have lva := hA.hd.iln tI
                have f0 := (hA.old RXX.out).c0; have f1 := (hA.old RXX.out).c1; have f2 := (hA.old RXD.out).c0; have f3 := (hA.old RXD.out).c1
                have H2 := hid hA
                clear hA hN
                go_simp
                refine hK.out _ _ ⟨f0, f1, f2, f3⟩ (fun hHeld2 => ?_)
                clear hK K hHeld
                try simp only [Act.put, List.setIfInBounds_toArray, List.set_cons_zero, List.set_cons_succ]
                have hHeld := hHeld2
                refine tkL (i := 3) (v := ?_) rfl (by kernel_rfl) (fun _ _ _ h => h) (by rfl) ?_ hHeld ?_
                rotate_left
                · (intro w hSw; (try dsimp only at hSw); go_simp; (try with_reducible rfl))
                try simp only [Act.put, List.setIfInBounds_toArray, List.set_cons_zero, List.set_cons_succ]
                refine wpAnyH_ready (rs := [9]) (by kernel_rfl) (by simp) ?_
                refine consL rfl (fun K hK => ?_) ?_
                · skip
                  go_simp
                  go_at_call 42; refine (HCb.out _ (H2.out.old RXd.out)).mono ?_
                  rintro e wb ⟨vb2, rfl, hN⟩
                  have hA := (H2.out).call1 hN
                  have lvb := hA.hd.iln tI
                  have f0 := (hA.old RXX.out).c0; have f1 := (hA.old RXX.out).c1; have f2 := (hA.old RXD.out).c0; have f3 := (hA.old RXD.out).c1
                  have H29 := hid hA
                  clear hA hN
                  go_simp
                  refine hK.out _ _ ⟨f0, f1, f2, f3⟩ (fun hHeld2 => ?_)
                  clear hK K hHeld
                  try simp only [Act.put, List.setIfInBounds_toArray, List.set_cons_zero, List.set_cons_succ]
                  have hHeld := hHeld2
                  refine tkL (i := 10) (v := ?_) rfl (by kernel_rfl) (fun _ _ _ h => h) (by rfl) ?_ hHeld ?_
                  rotate_left
                  · (intro w hSw; (try dsimp only at hSw); go_simp; (try with_reducible rfl))
                  try simp only [Act.put, List.setIfInBounds_toArray, List.set_cons_zero, List.set_cons_succ]
                  refine tkL (i := 11) (v := ?_) rfl (by kernel_rfl) (fun _ _ _ h => h) (by rfl) ?_ hHeld ?_
                  rotate_left
                  · (intro w hSw; (try dsimp only at hSw); go_simp; (try with_reducible rfl))
                  try simp only [Act.put, List.setIfInBounds_toArray, List.set_cons_zero, List.set_cons_succ]
                  refine wpAnyH_ready (rs := [15]) (by kernel_rfl) (by simp) ?_
                  refine consL rfl (fun K hK => ?_) ?_
                  · skip
                    go_simp
                    go_at_call 26; refine (HCh.out _).mono ?_
                    rintro e w' ⟨rfl, rfl⟩
                    go_simp
                    refine hK.out _ _ hHeld (fun hHeld2 => ?_)
                    clear hK K
                    try simp only [Act.put, List.setIfInBounds_toArray, List.set_cons_zero, List.set_cons_succ]
                    have hHeld := hHeld2
                    refine tkL (i := 16) (v := ?_) rfl (by kernel_rfl) (fun _ _ _ h => h) (by rfl) ?_ hHeld ?_
                    rotate_left
                    · (intro w hSw; (try dsimp only at hSw); go_simp; (try with_reducible rfl))
                    try simp only [Act.put, List.setIfInBounds_toArray, List.set_cons_zero, List.set_cons_succ]
                    refine tkL (i := 17) (v := ?_) rfl (by kernel_rfl) (fun _ _ _ h => h) (by rfl) ?_ hHeld ?_
                    rotate_left
                    · (intro w hSw; (try dsimp only at hSw); go_simp; (try with_reducible rfl))
                    try simp only [Act.put, List.setIfInBounds_toArray, List.set_cons_zero, List.set_cons_succ]
                    refine tkL (i := 18) (v := ?_) rfl (by kernel_rfl) (fun _ _ _ h => h) (by rfl) ?_ hHeld ?_
                    rotate_left
                    · (intro w hSw; (try dsimp only at hSw); go_simp; (try with_reducible rfl))
                    try simp only [Act.put, List.setIfInBounds_toArray, List.set_cons_zero, List.set_cons_succ]
                    refine tkL (i := 19) (v := ?_) rfl (by kernel_rfl) (fun _ _ _ h => h) (by rfl) ?_ hHeld ?_
                    rotate_left
                    · (intro w hSw; (try dsimp only at hSw); go_simp; (try with_reducible rfl))
                    try simp only [Act.put, List.setIfInBounds_toArray, List.set_cons_zero, List.set_cons_succ]
                    refine tkL (i := 20) (v := ?_) rfl (by kernel_rfl) (fun _ _ _ h => h) (by rfl) ?_ hHeld ?_
                    rotate_left
                    · (intro w hSw; (try dsimp only at hSw); go_simp; (try with_reducible rfl))
                    try simp only [Act.put, List.setIfInBounds_toArray, List.set_cons_zero, List.set_cons_succ]
                    refine tkL (i := 21) (v := ?_) rfl (by kernel_rfl) (fun _ _ _ h => h) (by rfl) ?_ hHeld ?_
                    rotate_left
                    · (intro w hSw; (try dsimp only at hSw); go_simp; (try with_reducible rfl))
                    try simp only [Act.put, List.setIfInBounds_toArray, List.set_cons_zero, List.set_cons_succ]
                    refine tkR (i := 22) rfl (by kernel_rfl) (fun _ _ _ h => h) (by rfl) hHeld ?_
                    refine tkR (i := 23) rfl (by kernel_rfl) (fun _ _ _ h => h) (by rfl) hHeld ?_
                    refine tkR (i := 24) rfl (by kernel_rfl) (fun _ _ _ h => h) (by rfl) hHeld ?_
                    try simp only [Act.put, List.setIfInBounds_toArray, List.set_cons_zero, List.set_cons_succ]
                    refine tkL (i := 25) (v := ?_) rfl (by kernel_rfl) (fun _ _ _ h => h) (by rfl) ?_ hHeld ?_
                    rotate_left
                    · (intro w hSw; (try dsimp only at hSw); go_simp; (try with_reducible rfl))
                    try simp only [Act.put, List.setIfInBounds_toArray, List.set_cons_zero, List.set_cons_succ]
                    refine tkL (i := 26) (v := ?_) rfl (by kernel_rfl) (fun _ _ _ h => h) (by rfl) ?_ hHeld ?_
                    rotate_left
                    · (intro w hSw; (try dsimp only at hSw); go_simp; (try with_reducible rfl))
                    try simp only [Act.put, List.setIfInBounds_toArray, List.set_cons_zero, List.set_cons_succ]
                    refine tkR (i := 27) rfl (by kernel_rfl) (fun _ _ _ h => h) (by rfl) hHeld ?_
                    try simp only [Act.put, List.setIfInBounds_toArray, List.set_cons_zero, List.set_cons_succ]
                    refine tkR (i := 28) rfl (by kernel_rfl) (fun _ _ _ h => h) (by rfl) hHeld ?_
                    refine tkR (i := 29) rfl (by kernel_rfl) (fun _ _ _ h => h) (by rfl) hHeld ?_
                    refine tkR (i := 30) rfl (by kernel_rfl) (fun _ _ _ h => h) (by rfl) hHeld ?_
                    try simp only [Act.put, List.setIfInBounds_toArray, List.set_cons_zero, List.set_cons_succ]
                    refine tkR (i := 31) rfl (by kernel_rfl) (fun _ _ _ h => h) (by rfl) hHeld ?_
                    refine tkR (i := 32) rfl (by kernel_rfl) (fun _ _ _ h => h) (by rfl) hHeld ?_
                    refine tkR (i := 33) rfl (by kernel_rfl) (fun _ _ _ h => h) (by rfl) hHeld ?_
                    try simp only [Act.put, List.setIfInBounds_toArray, List.set_cons_zero, List.set_cons_succ]
                    refine tkR (i := 34) rfl (by kernel_rfl) (fun _ _ _ h => h) (by rfl) hHeld ?_
                    refine tkR (i := 35) rfl (by kernel_rfl) (fun _ _ _ h => h) (by rfl) hHeld ?_
                    refine tkR (i := 36) rfl (by kernel_rfl) (fun _ _ _ h => h) (by rfl) hHeld ?_
                    try simp only [Act.put, List.setIfInBounds_toArray, List.set_cons_zero, List.set_cons_succ]
                    refine tkR (i := 37) rfl (by kernel_rfl) (fun _ _ _ h => h) (by rfl) hHeld ?_
                    refine tkL (i := 38) (v := ?_) rfl (by kernel_rfl) (fun _ _ _ h => h) (by rfl) ?_ hHeld ?_
                    rotate_left
                    · (intro w hSw; (try dsimp only at hSw); go_simp; (try with_reducible rfl))
                    try simp only [Act.put, List.setIfInBounds_toArray, List.set_cons_zero, List.set_cons_succ]
                    refine tkL (i := 39) (v := ?_) rfl (by kernel_rfl) (fun _ _ _ h => h) (by rfl) ?_ hHeld ?_
                    rotate_left
                    · (intro w hSw; (try dsimp only at hSw); go_simp; (try with_reducible rfl))
                    try simp only [Act.put, List.setIfInBounds_toArray, List.set_cons_zero, List.set_cons_succ]
                    refine wpAnyH_done (by kernel_rfl) ?_ _
                    go_wp2_with fail
                    go_roundw
                    case rel => exact ⟨k + 1, by omega, by go_num, (H29.out).bel⟩
                    case measure => simp [intOf]; omega
                  exact AllReadyH.nil
                exact AllReadyH.nil
              exact AllReadyH.nil
          · have q0 : decide ((k : Int) ≤ DN) = false := decide_eq_false hle
            go_wp2_with fail
            go_ret
            exact ⟨rfl, HS15.out.bel⟩
    | true =>
      have HAR : Hid (AreS m xs) := areB_iff.1 HONE.out
      have HCL : Hid (setsL (mem (AL.map (complB m))) = covB m xs) := by rw [← HAL.out]; exact covers_law HAR.out
      have HFP : Hid (ordL (AL.map (complB m)) = covB m xs) := by rw [← HCL.out]; exact if_pos (fun y hy => by obtain ⟨f, hf, rfl⟩ := List.mem_map.1 hy; have h1 := HAR.out.1; have h2 := HAR.out.2.1; have h3 := pw_rng (show 0 ≤ m by omega) h2; have hf2 : f ∈ fromL m xs := (by rw [← HAL.out] at hf; exact hf); have h4 := (isC_from h1 h2 : IsC m (fromL m xs)).2.2.1 f hf2; rw [complB_set (by omega) h2 h4.1 h4.2]; have := compN_rng h4.1 h4.2; omega)
      have rG := (HS8.out).hd
      have rg := ((HS8.out).tail).hd
      have RG := hid rG
      have Rg := hid rg
      clear rG rg
      have HSL := hid ((St.start (w8.alloc (.cells #[.int .i64 AN, .slice p5 l5 c5] 30))).newAt #[] 3 (by simp) (H := w8.heap.size + 1) (by simp))
      go_wp2_with fail
      go_loopw [16, 17] (fun r i wr => ∃ (j : Nat) (r' : Value), j ≤ AL.length ∧ i = .int .i64 j ∧ r = r' ∧ St (w8.alloc (.cells #[.int .i64 AN, .slice p5 l5 c5] 30)) wr [⟨r', 3, ints ((AL.map (complB m)).take j)⟩]) (fun _ i _ => AL.length - (intOf i).toNat)
      case atStart => exact ⟨0, _, Nat.zero_le _, rfl, rfl, HSL.out⟩
      case round =>
        obtain ⟨j, r', hj, rfl, ho, hS⟩ := hrel
        have ho2 := ho.symm
        subst ho2
        have g0 := (hS.old RG.out).c0
        have g1 := (hS.old RG.out).c1
        have rg := hS.old Rg.out
        have lg := rg.iln tI
        have HSJ := hid hS
        clear hS
        by_cases hlt : j < AL.length
        · have f1 := rg.iix tI j hlt
          have f2 := rg.intCell j hlt
          have hll : ((AL.map (complB m)).take j).length ≤ 448 := by simp; omega
          have E1 : Hid ((AL.map (complB m)).take (j + 1) = (AL.map (complB m)).take j ++ [complB m (gi AL j)]) := by show _ = _; rw [← List.map_take, ← List.map_take, take_succ_gi hlt, List.map_append]; rfl
          clear rg
          go_wp2_with (first | (go_at_call 35; refine (sComplementOf_c _ _ _).mono ?_; rintro e w' ⟨rfl, rfl⟩) | (at_builtin; refine wpList_push rfl _ _ rfl tI HSJ.out.own (.int .i64 (complB m (gi AL j))) rfl (by simp only [length_ints]; omega) rfl rfl ?_))
          intro v4 w10 hO4 hb4
          rw [ints_snoc] at hO4
          have e9 : (w8.alloc (.cells #[.int .i64 AN, .slice p5 l5 c5] 30)).heap.size = w8.heap.size + 1 := by simp
          rw [← e9] at hO4 hb4
          have HS9 := hid (HSJ.out.mut hO4 hb4)
          clear e9
          clear hO4 hb4
          go_wp2_with fail
          go_roundw
          case rel => exact ⟨j + 1, v4, by omega, by go_num, rfl, by rw [E1.out]; exact HS9.out⟩
          case measure => simp [intOf]; omega
        · have ej : (AL.map (complB m)).take j = AL.map (complB m) := List.take_of_length_le (by simp; omega)
          rw [ej] at HSJ
          have HSR := hid (HS8.out.call1 HSJ.out)
          go_wp2_with fail
          refine (sOrderSets_c _ _ _ HSJ.out.hd).mono ?_
          rw [HFP.out]
          rintro e w10 ⟨vo, rfl, hN⟩
          have HSO := hid (HSR.out.call1 hN)
          clear hN
          go_wp2_with fail
          refine (same_c _ _ (covB m xs) _ (HSO.out).hd ((((((HSO.out).tail).tail).tail).tail).tail).hd).mono ?_
          rintro e w15 ⟨rfl, q, hq⟩
          have hN := HSO.out.drewN q
          rw [← hq] at hN
          have HSP := hid hN
          clear hN hq
          cases ok with
          | false =>
            go_wp2_with fail
            go_ret
            exact ⟨rfl, (HSP.out).bel⟩
          | true =>
            have HOC : Hid (IsC n fs) := isC_iff.1 HOK.out
            have edn : DN = n := HDN.out.symm
            subst edn
            have HDC : Hid (isC DN DL = true) := by have := dual_isC HOC.out; rw [← HDL.out]; exact isC_iff.2 this
            have HDD : Hid (dualL DN DL = fs) := by rw [← HDL.out]; exact dual_dual HOC.out
            have HE1 : Hid (∀ w1, Rd w1 (.slice p2 l2 c2) (ints DL) → Calls Try.prog 28 #[cx DN (.slice p2 l2 c2)] w1 fun e w' => ∃ v, e = .returned (.tuple #[cx DN v, .bool true]) ∧ St w1 w' [⟨v, 3, ints fs⟩]) := fun w1 h => by have := DualOf_c DN _ DL w1 h; rw [HDC.out] at this; simp only [resN, resL, if_true, HDD.out] at this; exact this
            have HE2 : Hid (∀ w1, Rd w1 (.slice p2 l2 c2) (ints DL) → _) := fun w1 h => sHolesMod_c DN (.slice p2 l2 c2) DL 2 w1 h
            have HE3 : Hid (∀ j w1, Rd w1 (.slice p2 l2 c2) (ints DL) → _) := fun j w1 h => sFacesOfSize_c DN (.slice p2 l2 c2) DL j w1 h
            unfold cx at HE1 HE2 HE3
            have k0 := ((((((((((((HSP.out).tail).tail).tail).tail).tail).tail).tail).tail).tail).tail).tail).hd.c0
            have k1 := ((((((((((((HSP.out).tail).tail).tail).tail).tail).tail).tail).tail).tail).tail).tail).hd.c1
            go_wp2_with fail
            refine (HE1.out _ (((((((((((((HSP.out).tail).tail).tail).tail).tail).tail).tail).tail).tail).tail).tail).tail).hd).mono ?_
            rintro e w11 ⟨vb, rfl, hN⟩
            obtain ⟨p6, l6, c6, rfl⟩ := hN.hd.form
            have hS11 := ((HSP.out).call1 hN).boxAt DN (.slice p6 l6 c6) 30 (H := w11.heap.size) rfl
            have j0 := hS11.hd.c0
            have j1 := hS11.hd.c1
            have x0 := ((((((((((((((((hS11).tail).tail).tail).tail).tail).tail).tail).tail).tail).tail).tail).tail).tail).tail).tail).hd.c0
            have x1 := ((((((((((((((((hS11).tail).tail).tail).tail).tail).tail).tail).tail).tail).tail).tail).tail).tail).tail).tail).hd.c1
            have HS11 := hid hS11
            clear hN hS11 k0 k1
            try unfold cx
            have HSB : Hid (∀ w1, Rd w1 (.slice p6 l6 c6) (ints fs) → Rd w1 (.slice p l c) (ints fs) → _) := fun w1 h h2 => sameCx_c DN (.slice p6 l6 c6) (.slice p l c) fs w1 h h2
            unfold cx at HSB
            go_wp2_with fail
            refine (HSB.out _ ((HS11.out).tail).hd (((((((((((((((((HS11.out).tail).tail).tail).tail).tail).tail).tail).tail).tail).tail).tail).tail).tail).tail).tail).tail).hd).mono ?_
            rintro e w12 ⟨rfl, hN⟩
            have hS12 := HS11.out.quiet hN
            clear j0 j1 x0 x1
            have x0 := ((((((((((((((((hS12).tail).tail).tail).tail).tail).tail).tail).tail).tail).tail).tail).tail).tail).tail).tail).hd.c0
            have x1 := ((((((((((((((((hS12).tail).tail).tail).tail).tail).tail).tail).tail).tail).tail).tail).tail).tail).tail).tail).hd.c1
            have HS12 := hid hS12
            clear hN hS12
            go_wp2_with fail
            refine (HC3.out _ (((((((((((((((((HS12.out).tail).tail).tail).tail).tail).tail).tail).tail).tail).tail).tail).tail).tail).tail).tail).tail).hd).mono ?_
            obtain ⟨HA, hHA⟩ : ∃ HA, holesB DN fs 2 = HA := ⟨_, rfl⟩
            have HHA := hid hHA
            rw [hHA]
            clear hHA
            rintro e w13 ⟨vha, rfl, hN⟩
            have hS13 := HS12.out.call1 hN
            have k0 := (((((((((((((((hS13).tail).tail).tail).tail).tail).tail).tail).tail).tail).tail).tail).tail).tail).tail).hd.c0
            have k1 := (((((((((((((((hS13).tail).tail).tail).tail).tail).tail).tail).tail).tail).tail).tail).tail).tail).tail).hd.c1
            have HS13 := hid hS13
            clear hN hS13 x0 x1
            go_wp2_with fail
            refine (HE2.out _ ((((((((((((((((HS13.out).tail).tail).tail).tail).tail).tail).tail).tail).tail).tail).tail).tail).tail).tail).tail).hd).mono ?_
            obtain ⟨HB, hHB⟩ : ∃ HB, holesB DN DL 2 = HB := ⟨_, rfl⟩
            have HHB := hid hHB
            rw [hHB]
            clear hHB
            rintro e w14 ⟨vhb, rfl, hN⟩
            have hS14 := HS13.out.call1 hN
            have x0 := ((((((((((((((((((hS14).tail).tail).tail).tail).tail).tail).tail).tail).tail).tail).tail).tail).tail).tail).tail).tail).tail).hd.c0
            have HS14 := hid hS14
            clear hN hS14 k0 k1
            have RXX := hid (((((((((((((((((((HS14.out).tail).tail).tail).tail).tail).tail).tail).tail).tail).tail).tail).tail).tail).tail).tail).tail).tail).hd)
            have RXD := hid (((((((((((((((((HS14.out).tail).tail).tail).tail).tail).tail).tail).tail).tail).tail).tail).tail).tail).tail).tail).hd)
            have RXc := hid ((((((((((((((((((((HS14.out).tail).tail).tail).tail).tail).tail).tail).tail).tail).tail).tail).tail).tail).tail).tail).tail).tail).tail).hd)
            have RXd := hid ((((((((((((((((((HS14.out).tail).tail).tail).tail).tail).tail).tail).tail).tail).tail).tail).tail).tail).tail).tail).tail).hd)
            have RXha := hid (((HS14.out).tail).hd)
            have RXhb := hid ((HS14.out).hd)
            have hn1 : 1 ≤ DN := HOC.out.1
            have hn6 : DN ≤ 6 := HOC.out.2.1
            go_wp2_with fail
            go_loopw [22] (fun i wr => ∃ k : Nat, (k : Int) ≤ DN + 1 ∧ i = .int .i64 k ∧ Below w14.heap.size w14 wr) (fun i _ => 10 - (intOf i).toNat)
            case atStart => exact ⟨0, by omega, rfl, Below.refl _ _⟩
            case round =>
              obtain ⟨k, hk, rfl, hb⟩ := hrel
              have hS15 := HS14.out.quiet hb
              have HS15 := hid hS15
              have HQ0 := hid ((St.start w14).quiet hb)
              have x0 := ((((((((((((((((((hS15).tail).tail).tail).tail).tail).tail).tail).tail).tail).tail).tail).tail).tail).tail).tail).tail).tail).hd.c0
              have x1 := ((((((((((((((((((hS15).tail).tail).tail).tail).tail).tail).tail).tail).tail).tail).tail).tail).tail).tail).tail).tail).tail).hd.c1
              have y0 := ((((((((((((((((hS15).tail).tail).tail).tail).tail).tail).tail).tail).tail).tail).tail).tail).tail).tail).tail).hd.c0
              have y1 := ((((((((((((((((hS15).tail).tail).tail).tail).tail).tail).tail).tail).tail).tail).tail).tail).tail).tail).tail).hd.c1
              clear hS15 hb
              by_cases hle : (k : Int) ≤ DN
              · have q0 : decide ((k : Int) ≤ DN) = true := decide_eq_true hle
                obtain ⟨FA, hFA⟩ : ∃ FA, fosB DN fs (k : Int) = FA := ⟨_, rfl⟩
                obtain ⟨FB, hFB⟩ : ∃ FB, fosB DN DL (DN - (k : Int)) = FB := ⟨_, rfl⟩
                obtain ⟨CH, hCH⟩ : ∃ CH, chooseB DN (k : Int) = CH := ⟨_, rfl⟩
                have hsum : (FA.length : Int) + (FB.length : Int) = CH := by have := dual_count HOC.out hle; rw [← hFA, ← hFB, ← hCH]; have e := HDL.out; rw [← e]; exact this
                have fa64 : FA.length ≤ 64 := by rw [← hFA]; exact fosB_len _ _ _
                have fb64 : FB.length ≤ 64 := by rw [← hFB]; exact fosB_len _ _ _
                have HCa : Hid (∀ w1, Rd w1 (.slice p l c) (ints fs) → Calls Try.prog 42 #[.agg #[.int .i64 DN, .slice p l c], .int .i64 k] w1 fun e w' => ∃ v, e = .returned v ∧ St w1 w' [⟨v, 3, ints FA⟩]) := fun w1 h => by have := HC4.out k w1 h; rwa [hFA] at this
                have HCb : Hid (∀ w1, Rd w1 (.slice p2 l2 c2) (ints DL) → Calls Try.prog 42 #[.agg #[.int .i64 DN, .slice p2 l2 c2], .int .i64 (DN - k)] w1 fun e w' => ∃ v, e = .returned v ∧ St w1 w' [⟨v, 3, ints FB⟩]) := fun w1 h => by have := HE3.out (DN - k) w1 h; rwa [hFB] at this
                have HCh : Hid (∀ w1, Calls Try.prog 26 #[.int .i64 DN, .int .i64 k] w1 fun e w' => e = .returned (.int .i64 CH) ∧ w1 = w') := fun w1 => by have := sChoose_c DN k w1; rwa [hCH] at this
                have e1 : IntKind.i64.wrap (DN - (k : Int)) = DN - (k : Int) := IntWalk.i64_in _ (by omega)
                have e2 : IntKind.i64.wrap (DN - 1) = DN - 1 := IntWalk.i64_in _ (by omega)
                have e3 : IntKind.i64.wrap (DN - 1 - (k : Int)) = DN - 1 - (k : Int) := IntWalk.i64_in _ (by omega)
                have e4 : IntKind.i64.wrap ((FA.length : Int) + (FB.length : Int)) = CH := by rw [← hsum]; exact IntWalk.i64_in _ (by omega)
                have qch : (CH != CH) = false := by simp
                have lha := (((HS15.out).tail).hd).iln tI
                have lhb := ((HS15.out).hd).iln tI
                have hdh : 0 < HB.length → atB HA (k : Int) = atB HB (DN - 1 - (k : Int)) := fun h => by have e := HDL.out; rw [← HHA.out, ← HHB.out, ← e]; exact dual_holes HOC.out hle (by have := HHB.out; rw [← e] at this; rw [show holesB DN (dualL DN fs) 2 = HB from this]; exact h)
                have HDH := hid hdh
                clear hdh hFA hFB hCH hsum
                by_cases ha0 : 0 < HA.length
                · have qa : decide ((0 : Int) < (HA.length : Int)) = true := decide_eq_true (by omega)
                  by_cases hb0 : 0 < HB.length
                  · have qb : decide ((0 : Int) < (HB.length : Int)) = true := decide_eq_true (by omega)
                    obtain ⟨tt, htt⟩ : ∃ tt, atB HA (k : Int) = tt := ⟨_, rfl⟩
                    have htb : atB HB (DN - 1 - (k : Int)) = tt := by rw [← HDH.out hb0]; exact htt
                    have qtt : (tt != tt) = false := by simp
                    have HTa : Hid (∀ w1, Rd w1 vha (ints HA) → Calls Try.prog 43 #[vha, .int .i64 k] w1 fun e w' => e = .returned (.int .i64 tt) ∧ w1 = w') := fun w1 h => by have := at22_c _ HA k w1 h; rwa [htt] at this
                    have HTb : Hid (∀ w1, Rd w1 vhb (ints HB) → Calls Try.prog 43 #[vhb, .int .i64 (DN - 1 - k)] w1 fun e w' => e = .returned (.int .i64 tt) ∧ w1 = w') := fun w1 h => by have := at22_c _ HB (DN - 1 - k) w1 h; rwa [htb] at this
                    clear htt htb
                    go_wp2_with fail
                    go_region_held3 (fun w' => w'.cell? ⟨w1.heap.size, 0, none⟩ = some (.int .i64 (DN)) ∧ w'.cell? ⟨w1.heap.size, 1, none⟩ = some (.slice p l c) ∧ w'.cell? ⟨w2.heap.size, 0, none⟩ = some (.int .i64 (DN)) ∧ w'.cell? ⟨w2.heap.size, 1, none⟩ = some (.slice p2 l2 c2)) (first | go_keep | exact ⟨m0, m1, m2, m3⟩ | exact ⟨n0, n1, n2, n3⟩ | exact ⟨r0, r1, r2, r3⟩ | exact ⟨s0, s1, s2, s3⟩ | exact ⟨x0, x1, y0, y1⟩)
                      (first
                        | (go_at_call_of 43 vha; refine (HTa.out _ (HCD.out.old RXha.out)).mono ?_; rintro e w' ⟨rfl, rfl⟩)
                        | (go_at_call_of 43 vhb; refine (HTb.out _ (HCD.out.old RXhb.out)).mono ?_; rintro e w' ⟨rfl, rfl⟩)
                        | (go_at_call_of 43 vha; refine (HTa.out _ (HDC.out.old RXha.out)).mono ?_; rintro e w' ⟨rfl, rfl⟩)
                        | (go_at_call_of 43 vhb; refine (HTb.out _ (HDC.out.old RXhb.out)).mono ?_; rintro e w' ⟨rfl, rfl⟩)
                        | (go_at_call_of 42 (Value.agg #[Value.int IntKind.i64 DN, Value.slice p2 l2 c2]); refine (HCb.out _ (HC1st.out.old RXd.out)).mono ?_; rintro e wcd ⟨vcd, rfl, hN⟩; have hA := (HC1st.out).call1 hN; have lcd := hA.hd.iln tI; have n0 := (hA.old RXX.out).c0; have n1 := (hA.old RXX.out).c1; have n2 := (hA.old RXD.out).c0; have n3 := (hA.old RXD.out).c1; have HCD := hid hA; clear hA hN)
                        | (go_at_call_of 42 (Value.agg #[Value.int IntKind.i64 DN, Value.slice p l c]); refine (HCa.out _ (HD1st.out.old RXc.out)).mono ?_; rintro e wdc ⟨vdc, rfl, hN⟩; have hA := (HD1st.out).call1 hN; have ldc := hA.hd.iln tI; have s0 := (hA.old RXX.out).c0; have s1 := (hA.old RXX.out).c1; have s2 := (hA.old RXD.out).c0; have s3 := (hA.old RXD.out).c1; have HDC := hid hA; clear hA hN)
                        | (go_at_call_of 42 (Value.agg #[Value.int IntKind.i64 DN, Value.slice p l c]); refine (HCa.out _ ((HQ0.out.drewN 1).old RXc.out)).mono ?_; rintro e wc1 ⟨vc1, rfl, hN⟩; have hA := ((HQ0.out.drewN 1)).call1 hN; have lc1 := hA.hd.iln tI; have m0 := (hA.old RXX.out).c0; have m1 := (hA.old RXX.out).c1; have m2 := (hA.old RXD.out).c0; have m3 := (hA.old RXD.out).c1; have HC1st := hid hA; clear hA hN)
                        | (go_at_call_of 42 (Value.agg #[Value.int IntKind.i64 DN, Value.slice p2 l2 c2]); refine (HCb.out _ ((HQ0.out.drewN 1).old RXd.out)).mono ?_; rintro e wd1 ⟨vd1, rfl, hN⟩; have hA := ((HQ0.out.drewN 1)).call1 hN; have ld1 := hA.hd.iln tI; have r0 := (hA.old RXX.out).c0; have r1 := (hA.old RXX.out).c1; have r2 := (hA.old RXD.out).c0; have r3 := (hA.old RXD.out).c1; have HD1st := hid hA; clear hA hN)
                        | (go_at_call 26; refine (HCh.out _).mono ?_; rintro e w' ⟨rfl, rfl⟩))
                    all_goals
                      go_wp2_with fail
                      go_roundw
                      case rel => first | exact ⟨k + 1, by omega, by go_num, HCD.out.bel⟩ | exact ⟨k + 1, by omega, by go_num, HDC.out.bel⟩
                      case measure => simp [intOf]; omega
                  · have qb : decide ((0 : Int) < (HB.length : Int)) = false := decide_eq_false (by omega)
                    go_wp2_with fail
                    refine wp_region_held_drew (S := fun w' => w'.cell? ⟨w1.heap.size, 0, none⟩ = some (.int .i64 (DN)) ∧ w'.cell? ⟨w1.heap.size, 1, none⟩ = some (.slice p l c) ∧ w'.cell? ⟨w2.heap.size, 0, none⟩ = some (.int .i64 (DN)) ∧ w'.cell? ⟨w2.heap.size, 1, none⟩ = some (.slice p2 l2 c2)) (by kernel_rfl) (by first | go_keep | exact ⟨x0, x1, y0, y1⟩) (fun hHeld => ?_)
                    refine tkL (i := 0) (v := ?_) rfl (by kernel_rfl) (fun _ _ _ h => h) (by rfl) ?_ hHeld ?_
                    rotate_left
                    · (intro w hSw; (try dsimp only at hSw); go_simp; (try with_reducible rfl))
                    try simp only [Act.put, List.setIfInBounds_toArray, List.set_cons_zero, List.set_cons_succ]
                    refine tkL (i := 1) (v := ?_) rfl (by kernel_rfl) (fun _ _ _ h => h) (by rfl) ?_ hHeld ?_
                    rotate_left
                    · (intro w hSw; (try dsimp only at hSw); go_simp; (try with_reducible rfl))
                    try simp only [Act.put, List.setIfInBounds_toArray, List.set_cons_zero, List.set_cons_succ]
                    refine tkL (i := 4) (v := ?_) rfl (by kernel_rfl) (fun _ _ _ h => h) (by rfl) ?_ hHeld ?_
                    rotate_left
                    · (intro w hSw; (try dsimp only at hSw); go_simp; (try with_reducible rfl))
                    try simp only [Act.put, List.setIfInBounds_toArray, List.set_cons_zero, List.set_cons_succ]
                    refine tkL (i := 5) (v := ?_) rfl (by kernel_rfl) (fun _ _ _ h => h) (by rfl) ?_ hHeld ?_
                    rotate_left
                    · (intro w hSw; (try dsimp only at hSw); go_simp; (try with_reducible rfl))
                    try simp only [Act.put, List.setIfInBounds_toArray, List.set_cons_zero, List.set_cons_succ]
                    refine tkL (i := 6) (v := ?_) rfl (by kernel_rfl) (fun _ _ _ h => h) (by rfl) ?_ hHeld ?_
                    rotate_left
                    · (intro w hSw; (try dsimp only at hSw); go_simp; (try with_reducible rfl))
                    try simp only [Act.put, List.setIfInBounds_toArray, List.set_cons_zero, List.set_cons_succ]
                    refine tkL (i := 7) (v := ?_) rfl (by kernel_rfl) (fun _ _ _ h => h) (by rfl) ?_ hHeld ?_
                    rotate_left
                    · (intro w hSw; (try dsimp only at hSw); go_simp; (try with_reducible rfl))
                    try simp only [Act.put, List.setIfInBounds_toArray, List.set_cons_zero, List.set_cons_succ]
                    refine tkL (i := 8) (v := ?_) rfl (by kernel_rfl) (fun _ _ _ h => h) (by rfl) ?_ hHeld ?_
                    rotate_left
                    · (intro w hSw; (try dsimp only at hSw); go_simp; (try with_reducible rfl))
                    try simp only [Act.put, List.setIfInBounds_toArray, List.set_cons_zero, List.set_cons_succ]
                    refine tkL (i := 12) (v := ?_) rfl (by kernel_rfl) (fun _ _ _ h => h) (by rfl) ?_ hHeld ?_
                    rotate_left
                    · (intro w hSw; (try dsimp only at hSw); go_simp; (try with_reducible rfl))
                    try simp only [Act.put, List.setIfInBounds_toArray, List.set_cons_zero, List.set_cons_succ]
                    refine tkL (i := 13) (v := ?_) rfl (by kernel_rfl) (fun _ _ _ h => h) (by rfl) ?_ hHeld ?_
                    rotate_left
                    · (intro w hSw; (try dsimp only at hSw); go_simp; (try with_reducible rfl))
                    try simp only [Act.put, List.setIfInBounds_toArray, List.set_cons_zero, List.set_cons_succ]
                    refine tkL (i := 14) (v := ?_) rfl (by kernel_rfl) (fun _ _ _ h => h) (by rfl) ?_ hHeld ?_
                    rotate_left
                    · (intro w hSw; (try dsimp only at hSw); go_simp; (try with_reducible rfl))
                    try simp only [Act.put, List.setIfInBounds_toArray, List.set_cons_zero, List.set_cons_succ]
                    refine wpAnyH_ready (rs := [2]) (by kernel_rfl) (by simp) ?_
                    refine consL rfl (fun K hK => ?_) ?_
                    · skip
                      go_simp
                      go_at_call 42; refine (HCa.out _ ((HQ0.out.drewN 1).old RXc.out)).mono ?_
                      rintro e wa ⟨va, rfl, hN⟩
                      have hA := ((HQ0.out.drewN 1)).call1 hN
                      have lva := hA.hd.iln tI
                      have f0 := (hA.old RXX.out).c0; have f1 := (hA.old RXX.out).c1; have f2 := (hA.old RXD.out).c0; have f3 := (hA.old RXD.out).c1
                      have H2 := hid hA
                      clear hA hN
                      go_simp
                      refine hK.out _ _ ⟨f0, f1, f2, f3⟩ (fun hHeld2 => ?_)
                      clear hK K hHeld
                      try simp only [Act.put, List.setIfInBounds_toArray, List.set_cons_zero, List.set_cons_succ]
                      have hHeld := hHeld2
                      refine tkL (i := 3) (v := ?_) rfl (by kernel_rfl) (fun _ _ _ h => h) (by rfl) ?_ hHeld ?_
                      rotate_left
                      · (intro w hSw; (try dsimp only at hSw); go_simp; (try with_reducible rfl))
                      try simp only [Act.put, List.setIfInBounds_toArray, List.set_cons_zero, List.set_cons_succ]
                      refine wpAnyH_ready (rs := [9]) (by kernel_rfl) (by simp) ?_
                      refine consL rfl (fun K hK => ?_) ?_
                      · skip
                        go_simp
                        go_at_call 42; refine (HCb.out _ (H2.out.old RXd.out)).mono ?_
                        rintro e wb ⟨vb2, rfl, hN⟩
                        have hA := (H2.out).call1 hN
                        have lvb := hA.hd.iln tI
                        have f0 := (hA.old RXX.out).c0; have f1 := (hA.old RXX.out).c1; have f2 := (hA.old RXD.out).c0; have f3 := (hA.old RXD.out).c1
                        have H29 := hid hA
                        clear hA hN
                        go_simp
                        refine hK.out _ _ ⟨f0, f1, f2, f3⟩ (fun hHeld2 => ?_)
                        clear hK K hHeld
                        try simp only [Act.put, List.setIfInBounds_toArray, List.set_cons_zero, List.set_cons_succ]
                        have hHeld := hHeld2
                        refine tkL (i := 10) (v := ?_) rfl (by kernel_rfl) (fun _ _ _ h => h) (by rfl) ?_ hHeld ?_
                        rotate_left
                        · (intro w hSw; (try dsimp only at hSw); go_simp; (try with_reducible rfl))
                        try simp only [Act.put, List.setIfInBounds_toArray, List.set_cons_zero, List.set_cons_succ]
                        refine tkL (i := 11) (v := ?_) rfl (by kernel_rfl) (fun _ _ _ h => h) (by rfl) ?_ hHeld ?_
                        rotate_left
                        · (intro w hSw; (try dsimp only at hSw); go_simp; (try with_reducible rfl))
                        try simp only [Act.put, List.setIfInBounds_toArray, List.set_cons_zero, List.set_cons_succ]
                        refine wpAnyH_ready (rs := [15]) (by kernel_rfl) (by simp) ?_
                        refine consL rfl (fun K hK => ?_) ?_
                        · skip
                          go_simp
                          go_at_call 26; refine (HCh.out _).mono ?_
                          rintro e w' ⟨rfl, rfl⟩
                          go_simp
                          refine hK.out _ _ hHeld (fun hHeld2 => ?_)
                          clear hK K
                          try simp only [Act.put, List.setIfInBounds_toArray, List.set_cons_zero, List.set_cons_succ]
                          have hHeld := hHeld2
                          refine tkL (i := 16) (v := ?_) rfl (by kernel_rfl) (fun _ _ _ h => h) (by rfl) ?_ hHeld ?_
                          rotate_left
                          · (intro w hSw; (try dsimp only at hSw); go_simp; (try with_reducible rfl))
                          try simp only [Act.put, List.setIfInBounds_toArray, List.set_cons_zero, List.set_cons_succ]
                          refine tkL (i := 17) (v := ?_) rfl (by kernel_rfl) (fun _ _ _ h => h) (by rfl) ?_ hHeld ?_
                          rotate_left
                          · (intro w hSw; (try dsimp only at hSw); go_simp; (try with_reducible rfl))
                          try simp only [Act.put, List.setIfInBounds_toArray, List.set_cons_zero, List.set_cons_succ]
                          refine tkL (i := 18) (v := ?_) rfl (by kernel_rfl) (fun _ _ _ h => h) (by rfl) ?_ hHeld ?_
                          rotate_left
                          · (intro w hSw; (try dsimp only at hSw); go_simp; (try with_reducible rfl))
                          try simp only [Act.put, List.setIfInBounds_toArray, List.set_cons_zero, List.set_cons_succ]
                          refine tkL (i := 19) (v := ?_) rfl (by kernel_rfl) (fun _ _ _ h => h) (by rfl) ?_ hHeld ?_
                          rotate_left
                          · (intro w hSw; (try dsimp only at hSw); go_simp; (try with_reducible rfl))
                          try simp only [Act.put, List.setIfInBounds_toArray, List.set_cons_zero, List.set_cons_succ]
                          refine tkL (i := 20) (v := ?_) rfl (by kernel_rfl) (fun _ _ _ h => h) (by rfl) ?_ hHeld ?_
                          rotate_left
                          · (intro w hSw; (try dsimp only at hSw); go_simp; (try with_reducible rfl))
                          try simp only [Act.put, List.setIfInBounds_toArray, List.set_cons_zero, List.set_cons_succ]
                          refine tkL (i := 21) (v := ?_) rfl (by kernel_rfl) (fun _ _ _ h => h) (by rfl) ?_ hHeld ?_
                          rotate_left
                          · (intro w hSw; (try dsimp only at hSw); go_simp; (try with_reducible rfl))
                          try simp only [Act.put, List.setIfInBounds_toArray, List.set_cons_zero, List.set_cons_succ]
                          refine tkL (i := 22) (v := ?_) rfl (by kernel_rfl) (fun _ _ _ h => h) (by rfl) ?_ hHeld ?_
                          rotate_left
                          · (intro w hSw; (try dsimp only at hSw); go_simp; (try with_reducible rfl))
                          try simp only [Act.put, List.setIfInBounds_toArray, List.set_cons_zero, List.set_cons_succ]
                          refine tkL (i := 23) (v := ?_) rfl (by kernel_rfl) (fun _ _ _ h => h) (by rfl) ?_ hHeld ?_
                          rotate_left
                          · (intro w hSw; (try dsimp only at hSw); go_simp; (try with_reducible rfl))
                          try simp only [Act.put, List.setIfInBounds_toArray, List.set_cons_zero, List.set_cons_succ]
                          refine tkL (i := 24) (v := ?_) rfl (by kernel_rfl) (fun _ _ _ h => h) (by rfl) ?_ hHeld ?_
                          rotate_left
                          · (intro w hSw; (try dsimp only at hSw); go_simp; (try with_reducible rfl))
                          try simp only [Act.put, List.setIfInBounds_toArray, List.set_cons_zero, List.set_cons_succ]
                          refine tkL (i := 25) (v := ?_) rfl (by kernel_rfl) (fun _ _ _ h => h) (by rfl) ?_ hHeld ?_
                          rotate_left
                          · (intro w hSw; (try dsimp only at hSw); go_simp; (try with_reducible rfl))
                          try simp only [Act.put, List.setIfInBounds_toArray, List.set_cons_zero, List.set_cons_succ]
                          refine tkL (i := 26) (v := ?_) rfl (by kernel_rfl) (fun _ _ _ h => h) (by rfl) ?_ hHeld ?_
                          rotate_left
                          · (intro w hSw; (try dsimp only at hSw); go_simp; (try with_reducible rfl))
                          try simp only [Act.put, List.setIfInBounds_toArray, List.set_cons_zero, List.set_cons_succ]
                          refine tkR (i := 27) rfl (by kernel_rfl) (fun _ _ _ h => h) (by rfl) hHeld ?_
                          try simp only [Act.put, List.setIfInBounds_toArray, List.set_cons_zero, List.set_cons_succ]
                          refine tkR (i := 28) rfl (by kernel_rfl) (fun _ _ _ h => h) (by rfl) hHeld ?_
                          refine tkR (i := 29) rfl (by kernel_rfl) (fun _ _ _ h => h) (by rfl) hHeld ?_
                          refine tkR (i := 30) rfl (by kernel_rfl) (fun _ _ _ h => h) (by rfl) hHeld ?_
                          try simp only [Act.put, List.setIfInBounds_toArray, List.set_cons_zero, List.set_cons_succ]
                          refine tkR (i := 31) rfl (by kernel_rfl) (fun _ _ _ h => h) (by rfl) hHeld ?_
                          refine tkR (i := 32) rfl (by kernel_rfl) (fun _ _ _ h => h) (by rfl) hHeld ?_
                          refine tkR (i := 33) rfl (by kernel_rfl) (fun _ _ _ h => h) (by rfl) hHeld ?_
                          try simp only [Act.put, List.setIfInBounds_toArray, List.set_cons_zero, List.set_cons_succ]
                          refine tkR (i := 34) rfl (by kernel_rfl) (fun _ _ _ h => h) (by rfl) hHeld ?_
                          refine tkR (i := 35) rfl (by kernel_rfl) (fun _ _ _ h => h) (by rfl) hHeld ?_
                          refine tkR (i := 36) rfl (by kernel_rfl) (fun _ _ _ h => h) (by rfl) hHeld ?_
                          try simp only [Act.put, List.setIfInBounds_toArray, List.set_cons_zero, List.set_cons_succ]
                          refine tkR (i := 37) rfl (by kernel_rfl) (fun _ _ _ h => h) (by rfl) hHeld ?_
                          refine tkL (i := 38) (v := ?_) rfl (by kernel_rfl) (fun _ _ _ h => h) (by rfl) ?_ hHeld ?_
                          rotate_left
                          · (intro w hSw; (try dsimp only at hSw); go_simp; (try with_reducible rfl))
                          try simp only [Act.put, List.setIfInBounds_toArray, List.set_cons_zero, List.set_cons_succ]
                          refine tkL (i := 39) (v := ?_) rfl (by kernel_rfl) (fun _ _ _ h => h) (by rfl) ?_ hHeld ?_
                          rotate_left
                          · (intro w hSw; (try dsimp only at hSw); go_simp; (try with_reducible rfl))
                          try simp only [Act.put, List.setIfInBounds_toArray, List.set_cons_zero, List.set_cons_succ]
                          refine wpAnyH_done (by kernel_rfl) ?_ _
                          go_wp2_with fail
                          go_roundw
                          case rel => exact ⟨k + 1, by omega, by go_num, (H29.out).bel⟩
                          case measure => simp [intOf]; omega
                        exact AllReadyH.nil
                      exact AllReadyH.nil
                    exact AllReadyH.nil
                · have qa : decide ((0 : Int) < (HA.length : Int)) = false := decide_eq_false (by omega)
                  go_wp2_with fail
                  refine wp_region_held_drew (S := fun w' => w'.cell? ⟨w1.heap.size, 0, none⟩ = some (.int .i64 (DN)) ∧ w'.cell? ⟨w1.heap.size, 1, none⟩ = some (.slice p l c) ∧ w'.cell? ⟨w2.heap.size, 0, none⟩ = some (.int .i64 (DN)) ∧ w'.cell? ⟨w2.heap.size, 1, none⟩ = some (.slice p2 l2 c2)) (by kernel_rfl) (by first | go_keep | exact ⟨x0, x1, y0, y1⟩) (fun hHeld => ?_)
                  refine tkL (i := 0) (v := ?_) rfl (by kernel_rfl) (fun _ _ _ h => h) (by rfl) ?_ hHeld ?_
                  rotate_left
                  · (intro w hSw; (try dsimp only at hSw); go_simp; (try with_reducible rfl))
                  try simp only [Act.put, List.setIfInBounds_toArray, List.set_cons_zero, List.set_cons_succ]
                  refine tkL (i := 1) (v := ?_) rfl (by kernel_rfl) (fun _ _ _ h => h) (by rfl) ?_ hHeld ?_
                  rotate_left
                  · (intro w hSw; (try dsimp only at hSw); go_simp; (try with_reducible rfl))
                  try simp only [Act.put, List.setIfInBounds_toArray, List.set_cons_zero, List.set_cons_succ]
                  refine tkL (i := 4) (v := ?_) rfl (by kernel_rfl) (fun _ _ _ h => h) (by rfl) ?_ hHeld ?_
                  rotate_left
                  · (intro w hSw; (try dsimp only at hSw); go_simp; (try with_reducible rfl))
                  try simp only [Act.put, List.setIfInBounds_toArray, List.set_cons_zero, List.set_cons_succ]
                  refine tkL (i := 5) (v := ?_) rfl (by kernel_rfl) (fun _ _ _ h => h) (by rfl) ?_ hHeld ?_
                  rotate_left
                  · (intro w hSw; (try dsimp only at hSw); go_simp; (try with_reducible rfl))
                  try simp only [Act.put, List.setIfInBounds_toArray, List.set_cons_zero, List.set_cons_succ]
                  refine tkL (i := 6) (v := ?_) rfl (by kernel_rfl) (fun _ _ _ h => h) (by rfl) ?_ hHeld ?_
                  rotate_left
                  · (intro w hSw; (try dsimp only at hSw); go_simp; (try with_reducible rfl))
                  try simp only [Act.put, List.setIfInBounds_toArray, List.set_cons_zero, List.set_cons_succ]
                  refine tkL (i := 7) (v := ?_) rfl (by kernel_rfl) (fun _ _ _ h => h) (by rfl) ?_ hHeld ?_
                  rotate_left
                  · (intro w hSw; (try dsimp only at hSw); go_simp; (try with_reducible rfl))
                  try simp only [Act.put, List.setIfInBounds_toArray, List.set_cons_zero, List.set_cons_succ]
                  refine tkL (i := 8) (v := ?_) rfl (by kernel_rfl) (fun _ _ _ h => h) (by rfl) ?_ hHeld ?_
                  rotate_left
                  · (intro w hSw; (try dsimp only at hSw); go_simp; (try with_reducible rfl))
                  try simp only [Act.put, List.setIfInBounds_toArray, List.set_cons_zero, List.set_cons_succ]
                  refine tkL (i := 12) (v := ?_) rfl (by kernel_rfl) (fun _ _ _ h => h) (by rfl) ?_ hHeld ?_
                  rotate_left
                  · (intro w hSw; (try dsimp only at hSw); go_simp; (try with_reducible rfl))
                  try simp only [Act.put, List.setIfInBounds_toArray, List.set_cons_zero, List.set_cons_succ]
                  refine tkL (i := 13) (v := ?_) rfl (by kernel_rfl) (fun _ _ _ h => h) (by rfl) ?_ hHeld ?_
                  rotate_left
                  · (intro w hSw; (try dsimp only at hSw); go_simp; (try with_reducible rfl))
                  try simp only [Act.put, List.setIfInBounds_toArray, List.set_cons_zero, List.set_cons_succ]
                  refine tkL (i := 14) (v := ?_) rfl (by kernel_rfl) (fun _ _ _ h => h) (by rfl) ?_ hHeld ?_
                  rotate_left
                  · (intro w hSw; (try dsimp only at hSw); go_simp; (try with_reducible rfl))
                  try simp only [Act.put, List.setIfInBounds_toArray, List.set_cons_zero, List.set_cons_succ]
                  refine wpAnyH_ready (rs := [2]) (by kernel_rfl) (by simp) ?_
                  refine consL rfl (fun K hK => ?_) ?_
                  · skip
                    go_simp
                    go_at_call 42; refine (HCa.out _ ((HQ0.out.drewN 1).old RXc.out)).mono ?_
                    rintro e wa ⟨va, rfl, hN⟩
                    have hA := ((HQ0.out.drewN 1)).call1 hN
                    have lva := hA.hd.iln tI
                    have f0 := (hA.old RXX.out).c0; have f1 := (hA.old RXX.out).c1; have f2 := (hA.old RXD.out).c0; have f3 := (hA.old RXD.out).c1
                    have H2 := hid hA
                    clear hA hN
                    go_simp
                    refine hK.out _ _ ⟨f0, f1, f2, f3⟩ (fun hHeld2 => ?_)
                    clear hK K hHeld
                    try simp only [Act.put, List.setIfInBounds_toArray, List.set_cons_zero, List.set_cons_succ]
                    have hHeld := hHeld2
                    refine tkL (i := 3) (v := ?_) rfl (by kernel_rfl) (fun _ _ _ h => h) (by rfl) ?_ hHeld ?_
                    rotate_left
                    · (intro w hSw; (try dsimp only at hSw); go_simp; (try with_reducible rfl))
                    try simp only [Act.put, List.setIfInBounds_toArray, List.set_cons_zero, List.set_cons_succ]
                    refine wpAnyH_ready (rs := [9]) (by kernel_rfl) (by simp) ?_
                    refine consL rfl (fun K hK => ?_) ?_
                    · skip
                      go_simp
                      go_at_call 42; refine (HCb.out _ (H2.out.old RXd.out)).mono ?_
                      rintro e wb ⟨vb2, rfl, hN⟩
                      have hA := (H2.out).call1 hN
                      have lvb := hA.hd.iln tI
                      have f0 := (hA.old RXX.out).c0; have f1 := (hA.old RXX.out).c1; have f2 := (hA.old RXD.out).c0; have f3 := (hA.old RXD.out).c1
                      have H29 := hid hA
                      clear hA hN
                      go_simp
                      refine hK.out _ _ ⟨f0, f1, f2, f3⟩ (fun hHeld2 => ?_)
                      clear hK K hHeld
                      try simp only [Act.put, List.setIfInBounds_toArray, List.set_cons_zero, List.set_cons_succ]
                      have hHeld := hHeld2
                      refine tkL (i := 10) (v := ?_) rfl (by kernel_rfl) (fun _ _ _ h => h) (by rfl) ?_ hHeld ?_
                      rotate_left
                      · (intro w hSw; (try dsimp only at hSw); go_simp; (try with_reducible rfl))
                      try simp only [Act.put, List.setIfInBounds_toArray, List.set_cons_zero, List.set_cons_succ]
                      refine tkL (i := 11) (v := ?_) rfl (by kernel_rfl) (fun _ _ _ h => h) (by rfl) ?_ hHeld ?_
                      rotate_left
                      · (intro w hSw; (try dsimp only at hSw); go_simp; (try with_reducible rfl))
                      try simp only [Act.put, List.setIfInBounds_toArray, List.set_cons_zero, List.set_cons_succ]
                      refine wpAnyH_ready (rs := [15]) (by kernel_rfl) (by simp) ?_
                      refine consL rfl (fun K hK => ?_) ?_
                      · skip
                        go_simp
                        go_at_call 26; refine (HCh.out _).mono ?_
                        rintro e w' ⟨rfl, rfl⟩
                        go_simp
                        refine hK.out _ _ hHeld (fun hHeld2 => ?_)
                        clear hK K
                        try simp only [Act.put, List.setIfInBounds_toArray, List.set_cons_zero, List.set_cons_succ]
                        have hHeld := hHeld2
                        refine tkL (i := 16) (v := ?_) rfl (by kernel_rfl) (fun _ _ _ h => h) (by rfl) ?_ hHeld ?_
                        rotate_left
                        · (intro w hSw; (try dsimp only at hSw); go_simp; (try with_reducible rfl))
                        try simp only [Act.put, List.setIfInBounds_toArray, List.set_cons_zero, List.set_cons_succ]
                        refine tkL (i := 17) (v := ?_) rfl (by kernel_rfl) (fun _ _ _ h => h) (by rfl) ?_ hHeld ?_
                        rotate_left
                        · (intro w hSw; (try dsimp only at hSw); go_simp; (try with_reducible rfl))
                        try simp only [Act.put, List.setIfInBounds_toArray, List.set_cons_zero, List.set_cons_succ]
                        refine tkL (i := 18) (v := ?_) rfl (by kernel_rfl) (fun _ _ _ h => h) (by rfl) ?_ hHeld ?_
                        rotate_left
                        · (intro w hSw; (try dsimp only at hSw); go_simp; (try with_reducible rfl))
                        try simp only [Act.put, List.setIfInBounds_toArray, List.set_cons_zero, List.set_cons_succ]
                        refine tkL (i := 19) (v := ?_) rfl (by kernel_rfl) (fun _ _ _ h => h) (by rfl) ?_ hHeld ?_
                        rotate_left
                        · (intro w hSw; (try dsimp only at hSw); go_simp; (try with_reducible rfl))
                        try simp only [Act.put, List.setIfInBounds_toArray, List.set_cons_zero, List.set_cons_succ]
                        refine tkL (i := 20) (v := ?_) rfl (by kernel_rfl) (fun _ _ _ h => h) (by rfl) ?_ hHeld ?_
                        rotate_left
                        · (intro w hSw; (try dsimp only at hSw); go_simp; (try with_reducible rfl))
                        try simp only [Act.put, List.setIfInBounds_toArray, List.set_cons_zero, List.set_cons_succ]
                        refine tkL (i := 21) (v := ?_) rfl (by kernel_rfl) (fun _ _ _ h => h) (by rfl) ?_ hHeld ?_
                        rotate_left
                        · (intro w hSw; (try dsimp only at hSw); go_simp; (try with_reducible rfl))
                        try simp only [Act.put, List.setIfInBounds_toArray, List.set_cons_zero, List.set_cons_succ]
                        refine tkR (i := 22) rfl (by kernel_rfl) (fun _ _ _ h => h) (by rfl) hHeld ?_
                        refine tkR (i := 23) rfl (by kernel_rfl) (fun _ _ _ h => h) (by rfl) hHeld ?_
                        refine tkR (i := 24) rfl (by kernel_rfl) (fun _ _ _ h => h) (by rfl) hHeld ?_
                        try simp only [Act.put, List.setIfInBounds_toArray, List.set_cons_zero, List.set_cons_succ]
                        refine tkL (i := 25) (v := ?_) rfl (by kernel_rfl) (fun _ _ _ h => h) (by rfl) ?_ hHeld ?_
                        rotate_left
                        · (intro w hSw; (try dsimp only at hSw); go_simp; (try with_reducible rfl))
                        try simp only [Act.put, List.setIfInBounds_toArray, List.set_cons_zero, List.set_cons_succ]
                        refine tkL (i := 26) (v := ?_) rfl (by kernel_rfl) (fun _ _ _ h => h) (by rfl) ?_ hHeld ?_
                        rotate_left
                        · (intro w hSw; (try dsimp only at hSw); go_simp; (try with_reducible rfl))
                        try simp only [Act.put, List.setIfInBounds_toArray, List.set_cons_zero, List.set_cons_succ]
                        refine tkR (i := 27) rfl (by kernel_rfl) (fun _ _ _ h => h) (by rfl) hHeld ?_
                        try simp only [Act.put, List.setIfInBounds_toArray, List.set_cons_zero, List.set_cons_succ]
                        refine tkR (i := 28) rfl (by kernel_rfl) (fun _ _ _ h => h) (by rfl) hHeld ?_
                        refine tkR (i := 29) rfl (by kernel_rfl) (fun _ _ _ h => h) (by rfl) hHeld ?_
                        refine tkR (i := 30) rfl (by kernel_rfl) (fun _ _ _ h => h) (by rfl) hHeld ?_
                        try simp only [Act.put, List.setIfInBounds_toArray, List.set_cons_zero, List.set_cons_succ]
                        refine tkR (i := 31) rfl (by kernel_rfl) (fun _ _ _ h => h) (by rfl) hHeld ?_
                        refine tkR (i := 32) rfl (by kernel_rfl) (fun _ _ _ h => h) (by rfl) hHeld ?_
                        refine tkR (i := 33) rfl (by kernel_rfl) (fun _ _ _ h => h) (by rfl) hHeld ?_
                        try simp only [Act.put, List.setIfInBounds_toArray, List.set_cons_zero, List.set_cons_succ]
                        refine tkR (i := 34) rfl (by kernel_rfl) (fun _ _ _ h => h) (by rfl) hHeld ?_
                        refine tkR (i := 35) rfl (by kernel_rfl) (fun _ _ _ h => h) (by rfl) hHeld ?_
                        refine tkR (i := 36) rfl (by kernel_rfl) (fun _ _ _ h => h) (by rfl) hHeld ?_
                        try simp only [Act.put, List.setIfInBounds_toArray, List.set_cons_zero, List.set_cons_succ]
                        refine tkR (i := 37) rfl (by kernel_rfl) (fun _ _ _ h => h) (by rfl) hHeld ?_
                        refine tkL (i := 38) (v := ?_) rfl (by kernel_rfl) (fun _ _ _ h => h) (by rfl) ?_ hHeld ?_
                        rotate_left
                        · (intro w hSw; (try dsimp only at hSw); go_simp; (try with_reducible rfl))
                        try simp only [Act.put, List.setIfInBounds_toArray, List.set_cons_zero, List.set_cons_succ]
                        refine tkL (i := 39) (v := ?_) rfl (by kernel_rfl) (fun _ _ _ h => h) (by rfl) ?_ hHeld ?_
                        rotate_left
                        · (intro w hSw; (try dsimp only at hSw); go_simp; (try with_reducible rfl))
                        try simp only [Act.put, List.setIfInBounds_toArray, List.set_cons_zero, List.set_cons_succ]
                        refine wpAnyH_done (by kernel_rfl) ?_ _
                        go_wp2_with fail
                        go_roundw
                        case rel => exact ⟨k + 1, by omega, by go_num, (H29.out).bel⟩
                        case measure => simp [intOf]; omega
                      exact AllReadyH.nil
                    exact AllReadyH.nil
                  exact AllReadyH.nil
              · have q0 : decide ((k : Int) ≤ DN) = false := decide_eq_false hle
                go_wp2_with fail
                go_ret
                exact ⟨rfl, HS15.out.bel⟩

theorem own : ownKnob Try.prog.godebug = none := by kernel_rfl
theorem laidOut : laidOutB Try.prog = true := by kernel_rfl

set_option maxRecDepth 100000 in
theorem lifted (os : Os) (started : os.Started) (H : Type) (enc : TypeId × Value → H) :
    ReturnsInHanded {} Try.checked os 4 .any (Rows.fnDualsSpec.pre6 enc Try.prog Try.f4 Rows.fnDualsRow.domain false) (Rows.fnDualsSpec.post enc Try.prog Try.f4 false true false false) := by
  refine returnsInHanded_of_change (C := Try.checked) own started (by kernel_rfl) Try.func4
    (ChangeSpec.witness6 (enc := enc) (C := Try.checked) false ⟨#[], #[.slice none 0 0], []⟩ 8 (by kernel_rfl) (by kernel_rfl) (by kernel_rfl) (by kernel_rfl)) ?_
  intro W base args ds gs before hval0 hW hcnd _
  have hval : ∀ (j : Nat) t v, Try.f4.params[j]? = some t → args[j]? = some v → Value.okWide Try.prog W .any base t v := hval0
  have hW' := hW
  obtain ⟨p, q, hA0, hV, rfl, hfz, hnd⟩ := hW
  have hA : DataW.TrodAll enc Try.prog W 0 (fun _ => true) true Try.f4.params.toList args.toList ds p := hA0
  rw [Try.params4] at hA hval
  obtain ⟨v0, vs0, d0, ds0, p0, q0, hargs, rfl, rfl, h0, r0⟩ := trodAll_cons hA
  obtain ⟨rfl, rfl, rfl⟩ := trodAll_nil r0
  obtain rfl : args = #[v0] := by cases args; simp_all
  obtain ⟨rfl, rfl⟩ := trodVars_none hV
  obtain ⟨s0, len0, cap0, rfl⟩ := okWide_slice Try.underlying22 (hval 0 22 v0 rfl rfl)
  have k0 := h0
  have lt0 : ∀ x ∈ p0, x.block < W.heap.size := by obtain ⟨m, hm⟩ := k0; exact DataW.trod_lt m _ _ _ hm
  obtain ⟨z0, g0⟩ : ∃ zs, Rd W (.slice s0 len0 cap0) (byts zs) := by
    obtain ⟨fuel, hf⟩ := h0
    rcases open_ints Try.underlying22 Try.underlying5 (by kernel_rfl) hf with ⟨hcs, _⟩ | ⟨x, l, c, zs, hcs, _, hl, hm, hz, _, hcell, _⟩
    · simp [Value.cells] at hcs
      obtain ⟨rfl, rfl, rfl⟩ := hcs
      exact ⟨[], .inl ⟨rfl, rfl⟩⟩
    · simp [Value.cells] at hcs
      obtain ⟨rfl, rfl, rfl⟩ := hcs
      exact ⟨_, rdB_of_open hl hm (by simp at hz; omega) hcell⟩
  clear hA0 hval0
  refine (law_c _ z0 W g0).mono fun e W' ⟨he, bel⟩ => ?_
  subst he
  exact ⟨_, rfl, _, _, _, [], _, [], hW', trodAll_mk1 (shut_bool Try.underlying4 _), (trodAll_cons_mk (Below.trod laidOut (by kernel_rfl) (of_decide_eq_true (by kernel_rfl)) k0 bel lt0) trodAll_mk0), rfl, bel.frame _, fun h => by cases h⟩

theorem over : Rows.fnDualsRow.holds Try.pinned (OpenSpec.ofChange Rows.fnDualsSpec) :=
  OpenClaim.holds_of_wide 4 Try.f4 rfl rfl rfl rfl rfl rfl rfl ⟨rfl, rfl, rfl, rfl, rfl⟩ rfl rfl rfl rfl rfl (by kernel_rfl) Try.func4 (by kernel_rfl)
    (of_decide_eq_true (by kernel_rfl)) (by unfold Func.isWrapper; first | (rw [if_pos (by decide +kernel)]; kernel_rfl) | (rw [if_neg (by decide +kernel)]; exact ⟨rfl, rfl⟩))
    (fun os started H enc _ => lifted os started H enc)

theorem proved : Rows.FnDualsSaid :=
  over
end Go.Proofs.Ytjaofbdfhcgmeaa.fnDuals
