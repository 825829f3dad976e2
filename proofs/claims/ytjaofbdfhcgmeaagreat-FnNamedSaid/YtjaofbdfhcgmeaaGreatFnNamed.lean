/-
  The statement Rows.FnNamedSaid: the law answers true at every input, and its arguments read afterwards as before. No further condition.
-/
import Derived.Test.YtjaofbdfhcgmeaaGreatNmLaw
import Derived.ProofKit
import Derived.OpenShut
import Derived.ChangeOld
namespace Go.Proofs.YtjaofbdfhcgmeaaGreat.fnNamed
open Go.ChangeShapes Go.WideShapes Go.ChangeAt Go.RowKit
set_option linter.unusedVariables false

set_option maxHeartbeats 80000000 in
set_option maxRecDepth 100000 in
theorem law_c (u : Value) (z : List Int) (w : World) (g0 : Rd w u (byts z)) : Calls Tryz.prog 3 #[u] w fun e w' => e = .returned (.bool true) ∧ Below w.heap.size w w' := by
  by_cases hbig : 1048576 < (z.length : Int)
  · go_enter Tryz.func3, Tryz.ntmps3
    go_wp2_with (go_at_call 4; refine (big_c u z _ g0).mono ?_; rw [decide_eq_true hbig]; rintro e w' ⟨rfl, rfl⟩)
    go_ret
    exact ⟨rfl, Below.refl _ _⟩
  · have HS := hid (St.start w)
    have G := hid g0
    have HBG := hid (decide_eq_false hbig)
    clear hbig
    go_enter Tryz.func3, Tryz.ntmps3
    go_wp2_with (go_at_call 4; refine (big_c u z _ g0).mono ?_; rw [HBG.out]; rintro e w' ⟨rfl, rfl⟩)
    refine (DrawRenameComplex_c u z _ g0).mono ?_
    rintro e w1 ⟨nc, vc, fc, vn, ns, rfl, _, hN⟩
    obtain ⟨pc_, lc_, kc_, rfl⟩ := hN.tail.hd.form
    have hS := (HS.out.call hN).boxAt nc (.slice pc_ lc_ kc_) 26 (H := w1.heap.size) rfl
    have c0 := (hS).hd.c0
    have c1 := (hS).hd.c1
    have HS1 := hid hS
    clear hN hS
    obtain ⟨ok, hok⟩ : ∃ x, renB nc fc ns = x := ⟨_, rfl⟩
    have Hok := hid hok
    obtain ⟨XN, hXN⟩ : ∃ x, resN ok nc = x := ⟨_, rfl⟩
    have HXN := hid hXN
    obtain ⟨XL, hXL⟩ : ∃ x, resL ok (rnL fc ns) = x := ⟨_, rfl⟩
    have HXL := hid hXL
    have qok : (ok != ok) = false := by simp
    have HX1 : Hid (∀ w1, Rd w1 (.slice pc_ lc_ kc_) (ints fc) → Rd w1 vn (ints ns) → Calls Tryz.prog 6 #[cx nc (.slice pc_ lc_ kc_), vn] w1 fun e w' => ∃ v, e = .returned (.tuple #[cx XN v, .bool ok]) ∧ St w1 w' [⟨v, 3, ints XL⟩]) := fun w1 h h2 => by have := RenameComplex_c nc _ vn fc ns w1 h h2; rwa [hok, hXN, hXL] at this
    have HX2 : Hid (∀ w1, Rd w1 (.slice pc_ lc_ kc_) (ints fc) → Rd w1 vn (ints ns) → Calls Tryz.prog 7 #[cx nc (.slice pc_ lc_ kc_), vn] w1 fun e w' => ∃ v, e = .returned (.tuple #[cx XN v, .bool ok]) ∧ St w1 w' [⟨v, 3, ints XL⟩]) := fun w1 h h2 => by have := sRenameComplex_c nc _ vn fc ns w1 h h2; rwa [hok, hXN, hXL] at this
    clear hok hXN hXL
    unfold cx at HX1 HX2 ⊢
    go_wp2_with fail
    refine (HX1.out _ (((HS1.out).tail).tail).hd ((HS1.out).tail).hd).mono ?_
    rintro e w2 ⟨vx, rfl, hN⟩
    obtain ⟨px, lx, kx, rfl⟩ := hN.hd.form
    have hS := (HS1.out.call1 hN).boxAt XN (.slice px lx kx) 26 (H := w2.heap.size) rfl
    clear c0 c1
    have c0 := (((hS).tail).tail).hd.c0
    have c1 := (((hS).tail).tail).hd.c1
    have HS2 := hid hS
    clear hN hS
    try unfold cx
    go_wp2_with fail
    refine (HX2.out _ (((((HS2.out).tail).tail).tail).tail).hd ((((HS2.out).tail).tail).tail).hd).mono ?_
    rintro e w3 ⟨vy, rfl, hN⟩
    obtain ⟨py, ly, ky, rfl⟩ := hN.hd.form
    have hS := (HS2.out.call1 hN).boxAt XN (.slice py ly ky) 26 (H := w3.heap.size) rfl
    clear c0 c1
    have HS3 := hid hS
    clear hN hS
    try unfold cx
    go_wp2_with fail
    refine (DrawRenameSet_c u z _ (HS3.out.old G.out)).mono ?_
    rintro e w4 ⟨ss, vl, ls, rfl, hN⟩
    have HS4 := hid (HS3.out.call1 hN)
    clear hN
    obtain ⟨rt, hrt⟩ : ∃ x, rsB ss ls = x := ⟨_, rfl⟩
    obtain ⟨ro, hro⟩ : ∃ x, rsOk ss ls = x := ⟨_, rfl⟩
    have HRT := hid hrt
    have HRO := hid hro
    clear hrt hro
    have qrt : (rt != rt) = false := by simp
    have qro : (ro != ro) = false := by simp
    go_wp2_with (go_at_call 9; refine (RenameSet_c ss _ ls _ (HS4.out).hd).mono ?_; rw [HRT.out, HRO.out]; rintro e w' ⟨rfl, rfl⟩)
    refine (sRenameSet_c ss _ ls _ (HS4.out).hd).mono ?_
    rw [HRT.out, HRO.out]
    rintro e w5 ⟨rfl, q5, hq⟩
    have hN := HS4.out.drewN q5
    rw [← hq] at hN
    have HS5 := hid hN
    clear hN hq
    go_wp2_with fail
    refine (DrawCanonicalComplex_c u z _ (HS5.out.old G.out)).mono ?_
    rintro e w6 ⟨nd, vd, fd, rfl, _, hN⟩
    obtain ⟨pd, ld, kd, rfl⟩ := hN.hd.form
    have hS := (HS5.out.call1 hN).boxAt nd (.slice pd ld kd) 26 (H := w6.heap.size) rfl
    have c0 := (hS).hd.c0
    have c1 := (hS).hd.c1
    have HS6 := hid hS
    clear hN hS
    obtain ⟨three, hthree⟩ : ∃ x, isC nd fd = x := ⟨_, rfl⟩
    have Hthree := hid hthree
    obtain ⟨EN, hEN⟩ : ∃ x, resN three nd = x := ⟨_, rfl⟩
    have HEN := hid hEN
    obtain ⟨EL, hEL⟩ : ∃ x, resL three (canL nd fd) = x := ⟨_, rfl⟩
    have HEL := hid hEL
    have qthree : (three != three) = false := by simp
    have HE1 : Hid (∀ w1, Rd w1 (.slice pd ld kd) (ints fd) → Calls Tryz.prog 12 #[cx nd (.slice pd ld kd)] w1 fun e w' => ∃ v, e = .returned (.tuple #[cx EN v, .bool three]) ∧ St w1 w' [⟨v, 3, ints EL⟩]) := fun w1 h => by have := CanonicalComplex_c nd _ fd w1 h; rwa [hthree, hEN, hEL] at this
    have HE2 : Hid (∀ w1, Rd w1 (.slice pd ld kd) (ints fd) → Calls Tryz.prog 13 #[cx nd (.slice pd ld kd)] w1 fun e w' => ∃ v, e = .returned (.tuple #[cx EN v, .bool three]) ∧ St w1 w' [⟨v, 3, ints EL⟩]) := fun w1 h => by have := sCanonicalComplex_c nd _ fd w1 h; rwa [hthree, hEN, hEL] at this
    clear hthree hEN hEL
    unfold cx at HE1 HE2 ⊢
    go_wp2_with fail
    refine (HE1.out _ ((HS6.out).tail).hd).mono ?_
    rintro e w7 ⟨ve, rfl, hN⟩
    obtain ⟨pe, le, ke, rfl⟩ := hN.hd.form
    have hS := (HS6.out.call1 hN).boxAt EN (.slice pe le ke) 26 (H := w7.heap.size) rfl
    clear c0 c1
    have c0 := (((hS).tail).tail).hd.c0
    have c1 := (((hS).tail).tail).hd.c1
    have HS7 := hid hS
    clear hN hS
    try unfold cx
    go_wp2_with fail
    refine (HE2.out _ ((((HS7.out).tail).tail).tail).hd).mono ?_
    rintro e w8 ⟨vf, rfl, hN⟩
    obtain ⟨pf, lf, kf, rfl⟩ := hN.hd.form
    have hS := (HS7.out.call1 hN).boxAt EN (.slice pf lf kf) 26 (H := w8.heap.size) rfl
    clear c0 c1
    have HS8 := hid hS
    clear hN hS
    try unfold cx
    go_wp2_with fail
    refine (DrawAreAlike_c u z _ (HS8.out.old G.out)).mono ?_
    rintro e w9 ⟨na, va, fa, nb, vb, fb, rfl, hN⟩
    obtain ⟨pa, la, ka, rfl⟩ := hN.tail.hd.form
    obtain ⟨pb, lb, kb, rfl⟩ := hN.hd.form
    have hS := ((HS8.out.call hN).boxAt na (.slice pa la ka) 26 (H := w9.heap.size) rfl).boxAt nb (.slice pb lb kb) 26 (H := w9.heap.size + 1) (by simp)
    have HS9 := hid hS
    clear hN hS
    have HA1 : Hid (∀ w1, Rd w1 (.slice pa la ka) (ints fa) → Rd w1 (.slice pb lb kb) (ints fb) → _) := fun w1 h h2 => AreAlike_c na nb (.slice pa la ka) (.slice pb lb kb) fa fb w1 h h2
    have HA2 : Hid (∀ w1, Rd w1 (.slice pa la ka) (ints fa) → Rd w1 (.slice pb lb kb) (ints fb) → _) := fun w1 h h2 => sAreAlike_c na nb (.slice pa la ka) (.slice pb lb kb) fa fb w1 h h2
    obtain ⟨al, hal⟩ : ∃ x, alikeB na fa nb fb = x := ⟨_, rfl⟩
    rw [hal] at HA1 HA2
    clear hal
    have qal : (al != al) = false := by simp
    unfold cx at HA1 HA2
    try unfold cx
    go_wp2_with fail
    refine (DrawPointClasses_c u z _ (HS9.out.old G.out)).mono ?_
    rintro e w10 ⟨ng, vg, fg, rfl, _, hN⟩
    obtain ⟨pg, lg, kg, rfl⟩ := hN.hd.form
    have hS := (HS9.out.call1 hN).boxAt ng (.slice pg lg kg) 26 (H := w10.heap.size) rfl
    have c0 := (hS).hd.c0
    have c1 := (hS).hd.c1
    have HS10 := hid hS
    clear hN hS
    have HG1 : Hid (∀ w1, Rd w1 (.slice pg lg kg) (ints fg) → _) := fun w1 h => PointClasses_c ng (.slice pg lg kg) fg w1 h
    have HG2 : Hid (∀ w1, Rd w1 (.slice pg lg kg) (ints fg) → _) := fun w1 h => sPointClasses_c ng (.slice pg lg kg) fg w1 h
    have HG3 : Hid (∀ w1, Rd w1 (.slice pg lg kg) (ints fg) → _) := fun w1 h => CountSymmetries_c ng (.slice pg lg kg) fg w1 h
    have HG4 : Hid (∀ w1, Rd w1 (.slice pg lg kg) (ints fg) → _) := fun w1 h => sCountSymmetries_c ng (.slice pg lg kg) fg w1 h
    have HG5 : Hid (∀ w1, Rd w1 (.slice pg lg kg) (ints fg) → _) := fun w1 h => sIsComplex_c ng (.slice pg lg kg) fg w1 h
    have hnone := pcs_none (n := ng) (fs := fg)
    have hat := fun (hc : IsC ng fg) k hk => pcs_at (n := ng) (fs := fg) hc (k := k) hk
    have hdv := fun (hc : IsC ng fg) k hk => sym_dv (n := ng) (fs := fg) hc (k := k) hk
    have hall := pcs_all (n := ng) (fs := fg)
    have hsr := sym_rng (n := ng) (fs := fg)
    have hp6 := pcs_len6 (n := ng) (fs := fg)
    obtain ⟨CL, hCL⟩ : ∃ x, pcs ng fg = x := ⟨_, rfl⟩
    obtain ⟨SN, hSN⟩ : ∃ x, symN ng fg = x := ⟨_, rfl⟩
    have hcl : ∀ k, ClsAt ng fg CL k → 0 < gi CL k ∧ gi CL k < 64 ∧ 0 ≤ accL CL k ∧ accL CL k < 64 ∧ bits .and .i64 (accL CL k) (gi CL k) = 0 ∧ accL CL k + gi CL k < 64 ∧ 1 ≤ pc (gi CL k) := fun k h => ⟨h.s0, h.s1, h.a0, h.a1, h.an, h.nx, h.pc1⟩
    rw [hCL] at HG1 HG2 hnone hat hdv hall hp6
    rw [hSN] at HG3 HG4 hnone hdv hsr
    have HNONE := hid hnone
    have HAT := hid (fun (hc : IsC ng fg) k hk => hcl k (hat hc k hk))
    have HDV := hid hdv
    have HALL := hid hall
    have HSR := hid hsr
    have HP6 := hid hp6
    have qSN : (SN != SN) = false := by simp
    clear hCL hSN hcl hnone hat hdv hall hsr hp6
    unfold cx at HG1 HG2 HG3 HG4 HG5
    try unfold cx
    go_wp2_with fail
    refine (HG1.out _ ((HS10.out).tail).hd).mono ?_
    rintro e w11 ⟨vk, rfl, hN⟩
    have hS := HS10.out.call1 hN
    clear c0 c1
    have c0 := ((hS).tail).hd.c0
    have c1 := ((hS).tail).hd.c1
    have HS11 := hid hS
    clear hN hS
    go_wp2_with fail
    refine (HG3.out _ (((HS11.out).tail).tail).hd).mono ?_
    rintro e w12 ⟨rfl, hN⟩
    have hS := HS11.out.quiet hN
    clear c0 c1
    have c0 := (((((((((((((((((hS).tail).tail).tail).tail).tail).tail).tail).tail).tail).tail).tail).tail).tail).tail).tail).tail).hd.c0
    have c1 := (((((((((((((((((hS).tail).tail).tail).tail).tail).tail).tail).tail).tail).tail).tail).tail).tail).tail).tail).tail).hd.c1
    have c2 := (((((((((((((((hS).tail).tail).tail).tail).tail).tail).tail).tail).tail).tail).tail).tail).tail).tail).hd.c0
    have c3 := (((((((((((((((hS).tail).tail).tail).tail).tail).tail).tail).tail).tail).tail).tail).tail).tail).tail).hd.c1
    have c4 := ((((((((((hS).tail).tail).tail).tail).tail).tail).tail).tail).tail).hd.c0
    have c5 := ((((((((((hS).tail).tail).tail).tail).tail).tail).tail).tail).tail).hd.c1
    have c6 := ((((((((hS).tail).tail).tail).tail).tail).tail).tail).hd.c0
    have c7 := ((((((((hS).tail).tail).tail).tail).tail).tail).tail).hd.c1
    have c8 := (((((hS).tail).tail).tail).tail).hd.c0
    have c9 := (((((hS).tail).tail).tail).tail).hd.c1
    have c10 := ((((hS).tail).tail).tail).hd.c0
    have c11 := ((((hS).tail).tail).tail).hd.c1
    have c12 := ((hS).tail).hd.c0
    have c13 := ((hS).tail).hd.c1
    have HS12 := hid hS
    clear hN hS
    have HC1 : Hid (∀ w1, Rd w1 (.slice px lx kx) (ints XL) → Rd w1 (.slice py ly ky) (ints XL) → _) := fun w1 h h2 => sameCx_c XN (.slice px lx kx) (.slice py ly ky) XL w1 h h2
    have HC2 : Hid (∀ w1, Rd w1 (.slice pe le ke) (ints EL) → Rd w1 (.slice pf lf kf) (ints EL) → _) := fun w1 h h2 => sameCx_c EN (.slice pe le ke) (.slice pf lf kf) EL w1 h h2
    unfold cx at HC1 HC2
    go_wp2_with fail
    go_region_held3 (fun w' => w'.cell? ⟨w2.heap.size, 0, none⟩ = some (.int .i64 (XN)) ∧ w'.cell? ⟨w2.heap.size, 1, none⟩ = some (.slice px lx kx) ∧ w'.cell? ⟨w3.heap.size, 0, none⟩ = some (.int .i64 (XN)) ∧ w'.cell? ⟨w3.heap.size, 1, none⟩ = some (.slice py ly ky) ∧ w'.cell? ⟨w7.heap.size, 0, none⟩ = some (.int .i64 (EN)) ∧ w'.cell? ⟨w7.heap.size, 1, none⟩ = some (.slice pe le ke) ∧ w'.cell? ⟨w8.heap.size, 0, none⟩ = some (.int .i64 (EN)) ∧ w'.cell? ⟨w8.heap.size, 1, none⟩ = some (.slice pf lf kf) ∧ w'.cell? ⟨w9.heap.size, 0, none⟩ = some (.int .i64 (na)) ∧ w'.cell? ⟨w9.heap.size, 1, none⟩ = some (.slice pa la ka) ∧ w'.cell? ⟨w9.heap.size + 1, 0, none⟩ = some (.int .i64 (nb)) ∧ w'.cell? ⟨w9.heap.size + 1, 1, none⟩ = some (.slice pb lb kb) ∧ w'.cell? ⟨w10.heap.size, 0, none⟩ = some (.int .i64 (ng)) ∧ w'.cell? ⟨w10.heap.size, 1, none⟩ = some (.slice pg lg kg)) (first | go_keep | exact ⟨k0, k1, k2, k3, k4, k5, k6, k7, k8, k9, k10, k11, k12, k13⟩ | exact ⟨c0, c1, c2, c3, c4, c5, c6, c7, c8, c9, c10, c11, c12, c13⟩)
      (first
        | (go_at_call 23; refine (HG4.out _ ((((HAA6.out).tail).tail).tail).hd).mono ?_; rintro e wa7 ⟨rfl, hN⟩; have hA := (HAA6.out).quiet hN; have k0 := ((((((((((((((((((hA).tail).tail).tail).tail).tail).tail).tail).tail).tail).tail).tail).tail).tail).tail).tail).tail).tail).hd.c0; have k1 := ((((((((((((((((((hA).tail).tail).tail).tail).tail).tail).tail).tail).tail).tail).tail).tail).tail).tail).tail).tail).tail).hd.c1; have k2 := ((((((((((((((((hA).tail).tail).tail).tail).tail).tail).tail).tail).tail).tail).tail).tail).tail).tail).tail).hd.c0; have k3 := ((((((((((((((((hA).tail).tail).tail).tail).tail).tail).tail).tail).tail).tail).tail).tail).tail).tail).tail).hd.c1; have k4 := (((((((((((hA).tail).tail).tail).tail).tail).tail).tail).tail).tail).tail).hd.c0; have k5 := (((((((((((hA).tail).tail).tail).tail).tail).tail).tail).tail).tail).tail).hd.c1; have k6 := (((((((((hA).tail).tail).tail).tail).tail).tail).tail).tail).hd.c0; have k7 := (((((((((hA).tail).tail).tail).tail).tail).tail).tail).tail).hd.c1; have k8 := ((((((hA).tail).tail).tail).tail).tail).hd.c0; have k9 := ((((((hA).tail).tail).tail).tail).tail).hd.c1; have k10 := (((((hA).tail).tail).tail).tail).hd.c0; have k11 := (((((hA).tail).tail).tail).tail).hd.c1; have k12 := (((hA).tail).tail).hd.c0; have k13 := (((hA).tail).tail).hd.c1; have HAA7 := hid hA; clear hA hN)
        | (go_at_call 21; refine (same_c _ _ CL _ ((HAA5.out).tail).hd (HAA5.out).hd).mono ?_; rintro e wa6 ⟨rfl, q6, hq⟩; have hA := (HAA5.out).drewN q6; rw [← hq] at hA; have hN := hq; clear hq; have k0 := ((((((((((((((((((hA).tail).tail).tail).tail).tail).tail).tail).tail).tail).tail).tail).tail).tail).tail).tail).tail).tail).hd.c0; have k1 := ((((((((((((((((((hA).tail).tail).tail).tail).tail).tail).tail).tail).tail).tail).tail).tail).tail).tail).tail).tail).tail).hd.c1; have k2 := ((((((((((((((((hA).tail).tail).tail).tail).tail).tail).tail).tail).tail).tail).tail).tail).tail).tail).tail).hd.c0; have k3 := ((((((((((((((((hA).tail).tail).tail).tail).tail).tail).tail).tail).tail).tail).tail).tail).tail).tail).tail).hd.c1; have k4 := (((((((((((hA).tail).tail).tail).tail).tail).tail).tail).tail).tail).tail).hd.c0; have k5 := (((((((((((hA).tail).tail).tail).tail).tail).tail).tail).tail).tail).tail).hd.c1; have k6 := (((((((((hA).tail).tail).tail).tail).tail).tail).tail).tail).hd.c0; have k7 := (((((((((hA).tail).tail).tail).tail).tail).tail).tail).tail).hd.c1; have k8 := ((((((hA).tail).tail).tail).tail).tail).hd.c0; have k9 := ((((((hA).tail).tail).tail).tail).tail).hd.c1; have k10 := (((((hA).tail).tail).tail).tail).hd.c0; have k11 := (((((hA).tail).tail).tail).tail).hd.c1; have k12 := (((hA).tail).tail).hd.c0; have k13 := (((hA).tail).tail).hd.c1; have HAA6 := hid hA; clear hA hN)
        | (go_at_call 22; refine (HG2.out _ (((HAA4.out).tail).tail).hd).mono ?_; rintro e wa5 ⟨va5, rfl, hN⟩; have hA := (HAA4.out).call1 hN; have k0 := ((((((((((((((((((hA).tail).tail).tail).tail).tail).tail).tail).tail).tail).tail).tail).tail).tail).tail).tail).tail).tail).hd.c0; have k1 := ((((((((((((((((((hA).tail).tail).tail).tail).tail).tail).tail).tail).tail).tail).tail).tail).tail).tail).tail).tail).tail).hd.c1; have k2 := ((((((((((((((((hA).tail).tail).tail).tail).tail).tail).tail).tail).tail).tail).tail).tail).tail).tail).tail).hd.c0; have k3 := ((((((((((((((((hA).tail).tail).tail).tail).tail).tail).tail).tail).tail).tail).tail).tail).tail).tail).tail).hd.c1; have k4 := (((((((((((hA).tail).tail).tail).tail).tail).tail).tail).tail).tail).tail).hd.c0; have k5 := (((((((((((hA).tail).tail).tail).tail).tail).tail).tail).tail).tail).tail).hd.c1; have k6 := (((((((((hA).tail).tail).tail).tail).tail).tail).tail).tail).hd.c0; have k7 := (((((((((hA).tail).tail).tail).tail).tail).tail).tail).tail).hd.c1; have k8 := ((((((hA).tail).tail).tail).tail).tail).hd.c0; have k9 := ((((((hA).tail).tail).tail).tail).tail).hd.c1; have k10 := (((((hA).tail).tail).tail).tail).hd.c0; have k11 := (((((hA).tail).tail).tail).tail).hd.c1; have k12 := (((hA).tail).tail).hd.c0; have k13 := (((hA).tail).tail).hd.c1; have HAA5 := hid hA; clear hA hN)
        | (go_at_call 20; refine (HA2.out _ (((((((HAA3.out).tail).tail).tail).tail).tail).tail).hd ((((((HAA3.out).tail).tail).tail).tail).tail).hd).mono ?_; rintro e wa4 ⟨rfl, hN⟩; have hA := (HAA3.out).quiet hN; have k0 := (((((((((((((((((hA).tail).tail).tail).tail).tail).tail).tail).tail).tail).tail).tail).tail).tail).tail).tail).tail).hd.c0; have k1 := (((((((((((((((((hA).tail).tail).tail).tail).tail).tail).tail).tail).tail).tail).tail).tail).tail).tail).tail).tail).hd.c1; have k2 := (((((((((((((((hA).tail).tail).tail).tail).tail).tail).tail).tail).tail).tail).tail).tail).tail).tail).hd.c0; have k3 := (((((((((((((((hA).tail).tail).tail).tail).tail).tail).tail).tail).tail).tail).tail).tail).tail).tail).hd.c1; have k4 := ((((((((((hA).tail).tail).tail).tail).tail).tail).tail).tail).tail).hd.c0; have k5 := ((((((((((hA).tail).tail).tail).tail).tail).tail).tail).tail).tail).hd.c1; have k6 := ((((((((hA).tail).tail).tail).tail).tail).tail).tail).hd.c0; have k7 := ((((((((hA).tail).tail).tail).tail).tail).tail).tail).hd.c1; have k8 := (((((hA).tail).tail).tail).tail).hd.c0; have k9 := (((((hA).tail).tail).tail).tail).hd.c1; have k10 := ((((hA).tail).tail).tail).hd.c0; have k11 := ((((hA).tail).tail).tail).hd.c1; have k12 := ((hA).tail).hd.c0; have k13 := ((hA).tail).hd.c1; have HAA4 := hid hA; clear hA hN)
        | (go_at_call 19; refine (HA1.out _ (((((((HAA2.out).tail).tail).tail).tail).tail).tail).hd ((((((HAA2.out).tail).tail).tail).tail).tail).hd).mono ?_; rintro e wa3 ⟨rfl, hN⟩; have hA := (HAA2.out).quiet hN; have k0 := (((((((((((((((((hA).tail).tail).tail).tail).tail).tail).tail).tail).tail).tail).tail).tail).tail).tail).tail).tail).hd.c0; have k1 := (((((((((((((((((hA).tail).tail).tail).tail).tail).tail).tail).tail).tail).tail).tail).tail).tail).tail).tail).tail).hd.c1; have k2 := (((((((((((((((hA).tail).tail).tail).tail).tail).tail).tail).tail).tail).tail).tail).tail).tail).tail).hd.c0; have k3 := (((((((((((((((hA).tail).tail).tail).tail).tail).tail).tail).tail).tail).tail).tail).tail).tail).tail).hd.c1; have k4 := ((((((((((hA).tail).tail).tail).tail).tail).tail).tail).tail).tail).hd.c0; have k5 := ((((((((((hA).tail).tail).tail).tail).tail).tail).tail).tail).tail).hd.c1; have k6 := ((((((((hA).tail).tail).tail).tail).tail).tail).tail).hd.c0; have k7 := ((((((((hA).tail).tail).tail).tail).tail).tail).tail).hd.c1; have k8 := (((((hA).tail).tail).tail).tail).hd.c0; have k9 := (((((hA).tail).tail).tail).tail).hd.c1; have k10 := ((((hA).tail).tail).tail).hd.c0; have k11 := ((((hA).tail).tail).tail).hd.c1; have k12 := ((hA).tail).hd.c0; have k13 := ((hA).tail).hd.c1; have HAA3 := hid hA; clear hA hN)
        | (go_at_call 18; refine (HC2.out _ (((((((((((HAA1.out).tail).tail).tail).tail).tail).tail).tail).tail).tail).tail).hd (((((((((HAA1.out).tail).tail).tail).tail).tail).tail).tail).tail).hd).mono ?_; rintro e wa2 ⟨rfl, hN⟩; have hA := (HAA1.out).quiet hN; have k0 := (((((((((((((((((hA).tail).tail).tail).tail).tail).tail).tail).tail).tail).tail).tail).tail).tail).tail).tail).tail).hd.c0; have k1 := (((((((((((((((((hA).tail).tail).tail).tail).tail).tail).tail).tail).tail).tail).tail).tail).tail).tail).tail).tail).hd.c1; have k2 := (((((((((((((((hA).tail).tail).tail).tail).tail).tail).tail).tail).tail).tail).tail).tail).tail).tail).hd.c0; have k3 := (((((((((((((((hA).tail).tail).tail).tail).tail).tail).tail).tail).tail).tail).tail).tail).tail).tail).hd.c1; have k4 := ((((((((((hA).tail).tail).tail).tail).tail).tail).tail).tail).tail).hd.c0; have k5 := ((((((((((hA).tail).tail).tail).tail).tail).tail).tail).tail).tail).hd.c1; have k6 := ((((((((hA).tail).tail).tail).tail).tail).tail).tail).hd.c0; have k7 := ((((((((hA).tail).tail).tail).tail).tail).tail).tail).hd.c1; have k8 := (((((hA).tail).tail).tail).tail).hd.c0; have k9 := (((((hA).tail).tail).tail).tail).hd.c1; have k10 := ((((hA).tail).tail).tail).hd.c0; have k11 := ((((hA).tail).tail).tail).hd.c1; have k12 := ((hA).tail).hd.c0; have k13 := ((hA).tail).hd.c1; have HAA2 := hid hA; clear hA hN)
        | (go_at_call 18; refine (HC1.out _ (((((((((((((((((((HS12.out.drewN 1)).tail).tail).tail).tail).tail).tail).tail).tail).tail).tail).tail).tail).tail).tail).tail).tail).tail).hd (((((((((((((((((HS12.out.drewN 1)).tail).tail).tail).tail).tail).tail).tail).tail).tail).tail).tail).tail).tail).tail).tail).hd).mono ?_; rintro e wa1 ⟨rfl, hN⟩; have hA := ((HS12.out.drewN 1)).quiet hN; have k0 := (((((((((((((((((hA).tail).tail).tail).tail).tail).tail).tail).tail).tail).tail).tail).tail).tail).tail).tail).tail).hd.c0; have k1 := (((((((((((((((((hA).tail).tail).tail).tail).tail).tail).tail).tail).tail).tail).tail).tail).tail).tail).tail).tail).hd.c1; have k2 := (((((((((((((((hA).tail).tail).tail).tail).tail).tail).tail).tail).tail).tail).tail).tail).tail).tail).hd.c0; have k3 := (((((((((((((((hA).tail).tail).tail).tail).tail).tail).tail).tail).tail).tail).tail).tail).tail).tail).hd.c1; have k4 := ((((((((((hA).tail).tail).tail).tail).tail).tail).tail).tail).tail).hd.c0; have k5 := ((((((((((hA).tail).tail).tail).tail).tail).tail).tail).tail).tail).hd.c1; have k6 := ((((((((hA).tail).tail).tail).tail).tail).tail).tail).hd.c0; have k7 := ((((((((hA).tail).tail).tail).tail).tail).tail).tail).hd.c1; have k8 := (((((hA).tail).tail).tail).tail).hd.c0; have k9 := (((((hA).tail).tail).tail).tail).hd.c1; have k10 := ((((hA).tail).tail).tail).hd.c0; have k11 := ((((hA).tail).tail).tail).hd.c1; have k12 := ((hA).tail).hd.c0; have k13 := ((hA).tail).hd.c1; have HAA1 := hid hA; clear hA hN))
    cases ok with
    | false =>
      go_wp2_with fail
      go_quiet (fail)
      have hA := (HAA7.out).drewN nq
      generalize World.drewN _ nq = w18 at *
      have HR18 := hid hA
      clear hA
      cases three with
      | false =>
        have hr := ((HR18.out).tail).hd
        have HRC := hid hr
        have lcl := hr.iln tI
        clear hr
        cases hgc : isC ng fg with
        | false =>
          obtain ⟨e1, e2⟩ := HNONE.out hgc
          have e3 : (CL.length : Int) = 0 := by rw [e1]; rfl
          clear e1
          have g0 := (((HR18.out).tail).tail).hd.c0
          have g1 := (((HR18.out).tail).tail).hd.c1
          subst e2
          go_wp2_with fail
          refine (HG5.out _ ((((HR18.out).tail).tail).tail).hd).mono ?_
          rw [hgc]
          rintro e wz ⟨rfl, hN⟩
          have HZ := hid ((HR18.out).quiet hN)
          clear hN g0 g1 hgc
          go_wp2_with fail
          go_ret
          exact ⟨rfl, HZ.out.bel⟩
        | true =>
          have HIC := hid (isC_iff.1 hgc)
          have g0 := (((HR18.out).tail).tail).hd.c0
          have g1 := (((HR18.out).tail).tail).hd.c1
          go_wp2_with fail
          refine (HG5.out _ ((((HR18.out).tail).tail).tail).hd).mono ?_
          rw [hgc]
          rintro e wz ⟨rfl, hN⟩
          have hZ := (HR18.out).quiet hN
          clear g0 g1
          have g0 := (((hZ).tail).tail).hd.c0
          have hr := ((hZ).tail).hd
          have HRZ := hid hr
          have HZ := hid hZ
          have lcz := hr.iln tI
          have h6 := HP6.out HIC.out
          obtain ⟨s1, s2⟩ := HSR.out HIC.out
          have n1 : 1 ≤ ng := HIC.out.1
          have n6 : ng ≤ 6 := HIC.out.2.1
          clear hN hZ hr hgc lcl
          go_wp2_with fail
          go_loop [25, 26] (fun s i => ∃ j : Nat, j ≤ CL.length ∧ s = .int .i64 (accL CL j) ∧ i = .int .i64 j) (fun _ i => CL.length - (intOf i).toNat)
          case atStart => exact ⟨0, Nat.zero_le _, rfl, rfl⟩
          case round =>
            obtain ⟨j, hj, rfl, rfl⟩ := hrel
            by_cases hlt : j < CL.length
            · have f1 := HRZ.out.iix tI j hlt
              have f2 := HRZ.out.intCell j hlt
              obtain ⟨a1, a2, a3, a4, a5, a6, a7⟩ := HAT.out HIC.out j hlt
              obtain ⟨cc, hcc⟩ := HDV.out HIC.out j hlt
              have E1 : Hid (accL CL (j + 1) = accL CL j + gi CL j) := rfl
              have e1 : IntKind.i64.wrap (accL CL j + gi CL j) = accL CL (j + 1) := by rw [E1.out]; exact IntWalk.i64_in _ (by omega)
              have ql : decide ((j : Int) < (CL.length : Int)) = true := decide_eq_true (by omega)
              obtain ⟨zz, hzz⟩ : ∃ zz, pc (gi CL j) = zz := ⟨_, rfl⟩
              rw [hzz] at a7 hcc
              have HZZ := hid hzz
              have r1 : Int.tmod SN zz = 0 := by rw [hcc]; exact Int.mul_tmod_left _ _
              have r2 : (zz == 0) = false := by rw [beq_eq_false_iff_ne]; omega
              have r3 : ¬ zz = 0 := by omega
              have r4 : IntKind.i64.wrap (Int.tmod SN zz) = 0 := by rw [r1]; rfl
              clear hzz hcc
              go_wp2_with (go_at_call 27; refine (sSizeOf_c _ _ (by omega) a2).mono ?_; rw [HZZ.out]; rintro e w' ⟨rfl, rfl⟩)
              go_round
              case rel => exact ⟨j + 1, by omega, rfl, by go_num⟩
              case measure => simp [intOf]; omega
            · have ej : j = CL.length := by omega
              have ql : decide ((j : Int) < (CL.length : Int)) = false := decide_eq_false (by omega)
              have hfull := HALL.out HIC.out
              rw [← ej] at hfull
              have e1 : wrap64 (2 ^ ng.toNat) = pw ng := pw_wrap (by omega) n6
              have e2 : IntKind.u64.wrap ng = ng := IntWalk.u64_in _ (by omega)
              have hpw := pw_rng (show 0 ≤ ng by omega) n6
              have e3 : IntKind.i64.wrap (pw ng - 1) = pw ng - 1 := IntWalk.i64_in _ (by omega)
              have e4 : (accL CL j == pw ng - 1) = true := by rw [beq_iff_eq]; exact hfull
              have e5 : decide (1 ≤ SN) = true := decide_eq_true s1
              clear hfull hpw ej
              go_wp2_with fail
              go_ret
              exact ⟨rfl, HZ.out.bel⟩
      | true =>
        have hid3 := isC_iff.1 Hthree.out
        have halk : alikeB EN EL nd fd = true := by have e1 : nd = EN := HEN.out; have e2 : canL nd fd = EL := HEL.out; rw [← e2]; subst e1; exact can_alike hid3
        have HALK := hid halk
        have HAK : Hid (∀ w1, Rd w1 (.slice pe le ke) (ints EL) → Rd w1 (.slice pd ld kd) (ints fd) → _) := fun w1 h h2 => AreAlike_c EN nd (.slice pe le ke) (.slice pd ld kd) EL fd w1 h h2
        unfold cx at HAK
        clear hid3 halk
        have b0 := (((((((((((HR18.out).tail).tail).tail).tail).tail).tail).tail).tail).tail).tail).hd.c0
        have b1 := (((((((((((HR18.out).tail).tail).tail).tail).tail).tail).tail).tail).tail).tail).hd.c1
        have b2 := (((((((((((((HR18.out).tail).tail).tail).tail).tail).tail).tail).tail).tail).tail).tail).tail).hd.c0
        have b3 := (((((((((((((HR18.out).tail).tail).tail).tail).tail).tail).tail).tail).tail).tail).tail).tail).hd.c1
        go_wp2_with fail
        refine (HAK.out _ ((((((((((((HR18.out).tail).tail).tail).tail).tail).tail).tail).tail).tail).tail).tail).hd ((((((((((((((HR18.out).tail).tail).tail).tail).tail).tail).tail).tail).tail).tail).tail).tail).tail).hd).mono ?_
        rw [HALK.out]
        rintro e wq ⟨rfl, hN⟩
        have HQ := hid ((HR18.out).quiet hN)
        clear hN b0 b1 b2 b3
        have hr := ((HQ.out).tail).hd
        have HRC := hid hr
        have lcl := hr.iln tI
        clear hr
        cases hgc : isC ng fg with
        | false =>
          obtain ⟨e1, e2⟩ := HNONE.out hgc
          have e3 : (CL.length : Int) = 0 := by rw [e1]; rfl
          clear e1
          have g0 := (((HQ.out).tail).tail).hd.c0
          have g1 := (((HQ.out).tail).tail).hd.c1
          subst e2
          go_wp2_with fail
          refine (HG5.out _ ((((HQ.out).tail).tail).tail).hd).mono ?_
          rw [hgc]
          rintro e wz ⟨rfl, hN⟩
          have HZ := hid ((HQ.out).quiet hN)
          clear hN g0 g1 hgc
          go_wp2_with fail
          go_ret
          exact ⟨rfl, HZ.out.bel⟩
        | true =>
          have HIC := hid (isC_iff.1 hgc)
          have g0 := (((HQ.out).tail).tail).hd.c0
          have g1 := (((HQ.out).tail).tail).hd.c1
          go_wp2_with fail
          refine (HG5.out _ ((((HQ.out).tail).tail).tail).hd).mono ?_
          rw [hgc]
          rintro e wz ⟨rfl, hN⟩
          have hZ := (HQ.out).quiet hN
          clear g0 g1
          have g0 := (((hZ).tail).tail).hd.c0
          have hr := ((hZ).tail).hd
          have HRZ := hid hr
          have HZ := hid hZ
          have lcz := hr.iln tI
          have h6 := HP6.out HIC.out
          obtain ⟨s1, s2⟩ := HSR.out HIC.out
          have n1 : 1 ≤ ng := HIC.out.1
          have n6 : ng ≤ 6 := HIC.out.2.1
          clear hN hZ hr hgc lcl
          go_wp2_with fail
          go_loop [25, 26] (fun s i => ∃ j : Nat, j ≤ CL.length ∧ s = .int .i64 (accL CL j) ∧ i = .int .i64 j) (fun _ i => CL.length - (intOf i).toNat)
          case atStart => exact ⟨0, Nat.zero_le _, rfl, rfl⟩
          case round =>
            obtain ⟨j, hj, rfl, rfl⟩ := hrel
            by_cases hlt : j < CL.length
            · have f1 := HRZ.out.iix tI j hlt
              have f2 := HRZ.out.intCell j hlt
              obtain ⟨a1, a2, a3, a4, a5, a6, a7⟩ := HAT.out HIC.out j hlt
              obtain ⟨cc, hcc⟩ := HDV.out HIC.out j hlt
              have E1 : Hid (accL CL (j + 1) = accL CL j + gi CL j) := rfl
              have e1 : IntKind.i64.wrap (accL CL j + gi CL j) = accL CL (j + 1) := by rw [E1.out]; exact IntWalk.i64_in _ (by omega)
              have ql : decide ((j : Int) < (CL.length : Int)) = true := decide_eq_true (by omega)
              obtain ⟨zz, hzz⟩ : ∃ zz, pc (gi CL j) = zz := ⟨_, rfl⟩
              rw [hzz] at a7 hcc
              have HZZ := hid hzz
              have r1 : Int.tmod SN zz = 0 := by rw [hcc]; exact Int.mul_tmod_left _ _
              have r2 : (zz == 0) = false := by rw [beq_eq_false_iff_ne]; omega
              have r3 : ¬ zz = 0 := by omega
              have r4 : IntKind.i64.wrap (Int.tmod SN zz) = 0 := by rw [r1]; rfl
              clear hzz hcc
              go_wp2_with (go_at_call 27; refine (sSizeOf_c _ _ (by omega) a2).mono ?_; rw [HZZ.out]; rintro e w' ⟨rfl, rfl⟩)
              go_round
              case rel => exact ⟨j + 1, by omega, rfl, by go_num⟩
              case measure => simp [intOf]; omega
            · have ej : j = CL.length := by omega
              have ql : decide ((j : Int) < (CL.length : Int)) = false := decide_eq_false (by omega)
              have hfull := HALL.out HIC.out
              rw [← ej] at hfull
              have e1 : wrap64 (2 ^ ng.toNat) = pw ng := pw_wrap (by omega) n6
              have e2 : IntKind.u64.wrap ng = ng := IntWalk.u64_in _ (by omega)
              have hpw := pw_rng (show 0 ≤ ng by omega) n6
              have e3 : IntKind.i64.wrap (pw ng - 1) = pw ng - 1 := IntWalk.i64_in _ (by omega)
              have e4 : (accL CL j == pw ng - 1) = true := by rw [beq_iff_eq]; exact hfull
              have e5 : decide (1 ≤ SN) = true := decide_eq_true s1
              clear hfull hpw ej
              go_wp2_with fail
              go_ret
              exact ⟨rfl, HZ.out.bel⟩
    | true =>
      have hren := ren_true Hok.out
      have eXN : nc = XN := HXN.out
      have eXL : rnL fc ns = XL := HXL.out
      have hf : fvB XN XL = fvB nc fc := by rw [← eXN, ← eXL]; exact fv_rn hren.2 hren.1
      have hh : holesB XN XL 3 = holesB nc fc 3 := by rw [← eXN, ← eXL]; exact holes_rn hren.2 hren.1 3
      have HF1 : Hid (∀ w1, Rd w1 (.slice px lx kx) (ints XL) → _) := fun w1 h => sFaceCounts_c XN (.slice px lx kx) XL w1 h
      have HF2 : Hid (∀ w1, Rd w1 (.slice pc_ lc_ kc_) (ints fc) → _) := fun w1 h => sFaceCounts_c nc (.slice pc_ lc_ kc_) fc w1 h
      have HH1 : Hid (∀ w1, Rd w1 (.slice px lx kx) (ints XL) → _) := fun w1 h => sHolesMod_c XN (.slice px lx kx) XL 3 w1 h
      have HH2 : Hid (∀ w1, Rd w1 (.slice pc_ lc_ kc_) (ints fc) → _) := fun w1 h => sHolesMod_c nc (.slice pc_ lc_ kc_) fc 3 w1 h
      rw [hf] at HF1
      rw [hh] at HH1
      obtain ⟨FV, hFV⟩ : ∃ x, fvB nc fc = x := ⟨_, rfl⟩
      obtain ⟨HV, hHV⟩ : ∃ x, holesB nc fc 3 = x := ⟨_, rfl⟩
      rw [hFV] at HF1 HF2
      rw [hHV] at HH1 HH2
      clear hFV hHV hf hh hren eXN eXL
      unfold cx at HF1 HF2 HH1 HH2
      have d0 := ((((((((((((((((((HAA7.out).tail).tail).tail).tail).tail).tail).tail).tail).tail).tail).tail).tail).tail).tail).tail).tail).tail).hd.c0
      have d1 := ((((((((((((((((((HAA7.out).tail).tail).tail).tail).tail).tail).tail).tail).tail).tail).tail).tail).tail).tail).tail).tail).tail).hd.c1
      have d2 := ((((((((((((((((((((HAA7.out).tail).tail).tail).tail).tail).tail).tail).tail).tail).tail).tail).tail).tail).tail).tail).tail).tail).tail).tail).hd.c0
      have d3 := ((((((((((((((((((((HAA7.out).tail).tail).tail).tail).tail).tail).tail).tail).tail).tail).tail).tail).tail).tail).tail).tail).tail).tail).tail).hd.c1
      go_wp2_with fail
      go_region_held3 (fun w' => w'.cell? ⟨w2.heap.size, 0, none⟩ = some (.int .i64 (XN)) ∧ w'.cell? ⟨w2.heap.size, 1, none⟩ = some (.slice px lx kx) ∧ w'.cell? ⟨w1.heap.size, 0, none⟩ = some (.int .i64 (nc)) ∧ w'.cell? ⟨w1.heap.size, 1, none⟩ = some (.slice pc_ lc_ kc_)) (first | go_keep | exact ⟨t0, t1, t2, t3⟩ | exact ⟨d0, d1, d2, d3⟩)
        (first
          | (go_at_call 21; refine (same_c _ _ HV _ ((HF5_.out).tail).hd (HF5_.out).hd).mono ?_; rintro e wf6 ⟨rfl, qf6, hq⟩; have hA := (HF5_.out).drewN qf6; rw [← hq] at hA; have hN := hq; clear hq; have t0 := ((((((((((((((((((((((hA).tail).tail).tail).tail).tail).tail).tail).tail).tail).tail).tail).tail).tail).tail).tail).tail).tail).tail).tail).tail).tail).hd.c0; have t1 := ((((((((((((((((((((((hA).tail).tail).tail).tail).tail).tail).tail).tail).tail).tail).tail).tail).tail).tail).tail).tail).tail).tail).tail).tail).tail).hd.c1; have t2 := ((((((((((((((((((((((((hA).tail).tail).tail).tail).tail).tail).tail).tail).tail).tail).tail).tail).tail).tail).tail).tail).tail).tail).tail).tail).tail).tail).tail).hd.c0; have t3 := ((((((((((((((((((((((((hA).tail).tail).tail).tail).tail).tail).tail).tail).tail).tail).tail).tail).tail).tail).tail).tail).tail).tail).tail).tail).tail).tail).tail).hd.c1; have HF6_ := hid hA; clear hA hN)
          | (go_at_call 25; refine (HH2.out _ (((((((((((((((((((((((((HF4_.out).tail).tail).tail).tail).tail).tail).tail).tail).tail).tail).tail).tail).tail).tail).tail).tail).tail).tail).tail).tail).tail).tail).tail).tail).hd).mono ?_; rintro e wf5 ⟨vf5, rfl, hN⟩; have hA := (HF4_.out).call1 hN; have t0 := ((((((((((((((((((((((hA).tail).tail).tail).tail).tail).tail).tail).tail).tail).tail).tail).tail).tail).tail).tail).tail).tail).tail).tail).tail).tail).hd.c0; have t1 := ((((((((((((((((((((((hA).tail).tail).tail).tail).tail).tail).tail).tail).tail).tail).tail).tail).tail).tail).tail).tail).tail).tail).tail).tail).tail).hd.c1; have t2 := ((((((((((((((((((((((((hA).tail).tail).tail).tail).tail).tail).tail).tail).tail).tail).tail).tail).tail).tail).tail).tail).tail).tail).tail).tail).tail).tail).tail).hd.c0; have t3 := ((((((((((((((((((((((((hA).tail).tail).tail).tail).tail).tail).tail).tail).tail).tail).tail).tail).tail).tail).tail).tail).tail).tail).tail).tail).tail).tail).tail).hd.c1; have HF5_ := hid hA; clear hA hN)
          | (go_at_call 25; refine (HH1.out _ (((((((((((((((((((((HF3_.out).tail).tail).tail).tail).tail).tail).tail).tail).tail).tail).tail).tail).tail).tail).tail).tail).tail).tail).tail).tail).hd).mono ?_; rintro e wf4 ⟨vf4, rfl, hN⟩; have hA := (HF3_.out).call1 hN; have t0 := (((((((((((((((((((((hA).tail).tail).tail).tail).tail).tail).tail).tail).tail).tail).tail).tail).tail).tail).tail).tail).tail).tail).tail).tail).hd.c0; have t1 := (((((((((((((((((((((hA).tail).tail).tail).tail).tail).tail).tail).tail).tail).tail).tail).tail).tail).tail).tail).tail).tail).tail).tail).tail).hd.c1; have t2 := (((((((((((((((((((((((hA).tail).tail).tail).tail).tail).tail).tail).tail).tail).tail).tail).tail).tail).tail).tail).tail).tail).tail).tail).tail).tail).tail).hd.c0; have t3 := (((((((((((((((((((((((hA).tail).tail).tail).tail).tail).tail).tail).tail).tail).tail).tail).tail).tail).tail).tail).tail).tail).tail).tail).tail).tail).tail).hd.c1; have HF4_ := hid hA; clear hA hN)
          | (go_at_call 21; refine (same_c _ _ FV _ ((HF2_.out).tail).hd (HF2_.out).hd).mono ?_; rintro e wf3 ⟨rfl, qf3, hq⟩; have hA := (HF2_.out).drewN qf3; rw [← hq] at hA; have hN := hq; clear hq; have t0 := ((((((((((((((((((((hA).tail).tail).tail).tail).tail).tail).tail).tail).tail).tail).tail).tail).tail).tail).tail).tail).tail).tail).tail).hd.c0; have t1 := ((((((((((((((((((((hA).tail).tail).tail).tail).tail).tail).tail).tail).tail).tail).tail).tail).tail).tail).tail).tail).tail).tail).tail).hd.c1; have t2 := ((((((((((((((((((((((hA).tail).tail).tail).tail).tail).tail).tail).tail).tail).tail).tail).tail).tail).tail).tail).tail).tail).tail).tail).tail).tail).hd.c0; have t3 := ((((((((((((((((((((((hA).tail).tail).tail).tail).tail).tail).tail).tail).tail).tail).tail).tail).tail).tail).tail).tail).tail).tail).tail).tail).tail).hd.c1; have HF3_ := hid hA; clear hA hN)
          | (go_at_call 24; refine (HF2.out _ (((((((((((((((((((((((HF1_.out).tail).tail).tail).tail).tail).tail).tail).tail).tail).tail).tail).tail).tail).tail).tail).tail).tail).tail).tail).tail).tail).tail).hd).mono ?_; rintro e wf2 ⟨vf2, rfl, hN⟩; have hA := (HF1_.out).call1 hN; have t0 := ((((((((((((((((((((hA).tail).tail).tail).tail).tail).tail).tail).tail).tail).tail).tail).tail).tail).tail).tail).tail).tail).tail).tail).hd.c0; have t1 := ((((((((((((((((((((hA).tail).tail).tail).tail).tail).tail).tail).tail).tail).tail).tail).tail).tail).tail).tail).tail).tail).tail).tail).hd.c1; have t2 := ((((((((((((((((((((((hA).tail).tail).tail).tail).tail).tail).tail).tail).tail).tail).tail).tail).tail).tail).tail).tail).tail).tail).tail).tail).tail).hd.c0; have t3 := ((((((((((((((((((((((hA).tail).tail).tail).tail).tail).tail).tail).tail).tail).tail).tail).tail).tail).tail).tail).tail).tail).tail).tail).tail).tail).hd.c1; have HF2_ := hid hA; clear hA hN)
          | (go_at_call 24; refine (HF1.out _ ((((((((((((((((((((HAA7.out.drewN 1)).tail).tail).tail).tail).tail).tail).tail).tail).tail).tail).tail).tail).tail).tail).tail).tail).tail).tail).hd).mono ?_; rintro e wf1 ⟨vf1, rfl, hN⟩; have hA := ((HAA7.out.drewN 1)).call1 hN; have t0 := (((((((((((((((((((hA).tail).tail).tail).tail).tail).tail).tail).tail).tail).tail).tail).tail).tail).tail).tail).tail).tail).tail).hd.c0; have t1 := (((((((((((((((((((hA).tail).tail).tail).tail).tail).tail).tail).tail).tail).tail).tail).tail).tail).tail).tail).tail).tail).tail).hd.c1; have t2 := (((((((((((((((((((((hA).tail).tail).tail).tail).tail).tail).tail).tail).tail).tail).tail).tail).tail).tail).tail).tail).tail).tail).tail).tail).hd.c0; have t3 := (((((((((((((((((((((hA).tail).tail).tail).tail).tail).tail).tail).tail).tail).tail).tail).tail).tail).tail).tail).tail).tail).tail).tail).tail).hd.c1; have HF1_ := hid hA; clear hA hN))
      cases three with
      | false =>
        have hr := ((((((HF6_.out).tail).tail).tail).tail).tail).hd
        have HRC := hid hr
        have lcl := hr.iln tI
        clear hr
        cases hgc : isC ng fg with
        | false =>
          obtain ⟨e1, e2⟩ := HNONE.out hgc
          have e3 : (CL.length : Int) = 0 := by rw [e1]; rfl
          clear e1
          have g0 := (((((((HF6_.out).tail).tail).tail).tail).tail).tail).hd.c0
          have g1 := (((((((HF6_.out).tail).tail).tail).tail).tail).tail).hd.c1
          subst e2
          go_wp2_with fail
          refine (HG5.out _ ((((((((HF6_.out).tail).tail).tail).tail).tail).tail).tail).hd).mono ?_
          rw [hgc]
          rintro e wz ⟨rfl, hN⟩
          have HZ := hid ((HF6_.out).quiet hN)
          clear hN g0 g1 hgc
          go_wp2_with fail
          go_ret
          exact ⟨rfl, HZ.out.bel⟩
        | true =>
          have HIC := hid (isC_iff.1 hgc)
          have g0 := (((((((HF6_.out).tail).tail).tail).tail).tail).tail).hd.c0
          have g1 := (((((((HF6_.out).tail).tail).tail).tail).tail).tail).hd.c1
          go_wp2_with fail
          refine (HG5.out _ ((((((((HF6_.out).tail).tail).tail).tail).tail).tail).tail).hd).mono ?_
          rw [hgc]
          rintro e wz ⟨rfl, hN⟩
          have hZ := (HF6_.out).quiet hN
          clear g0 g1
          have g0 := (((((((hZ).tail).tail).tail).tail).tail).tail).hd.c0
          have hr := ((((((hZ).tail).tail).tail).tail).tail).hd
          have HRZ := hid hr
          have HZ := hid hZ
          have lcz := hr.iln tI
          have h6 := HP6.out HIC.out
          obtain ⟨s1, s2⟩ := HSR.out HIC.out
          have n1 : 1 ≤ ng := HIC.out.1
          have n6 : ng ≤ 6 := HIC.out.2.1
          clear hN hZ hr hgc lcl
          go_wp2_with fail
          go_loop [25, 26] (fun s i => ∃ j : Nat, j ≤ CL.length ∧ s = .int .i64 (accL CL j) ∧ i = .int .i64 j) (fun _ i => CL.length - (intOf i).toNat)
          case atStart => exact ⟨0, Nat.zero_le _, rfl, rfl⟩
          case round =>
            obtain ⟨j, hj, rfl, rfl⟩ := hrel
            by_cases hlt : j < CL.length
            · have f1 := HRZ.out.iix tI j hlt
              have f2 := HRZ.out.intCell j hlt
              obtain ⟨a1, a2, a3, a4, a5, a6, a7⟩ := HAT.out HIC.out j hlt
              obtain ⟨cc, hcc⟩ := HDV.out HIC.out j hlt
              have E1 : Hid (accL CL (j + 1) = accL CL j + gi CL j) := rfl
              have e1 : IntKind.i64.wrap (accL CL j + gi CL j) = accL CL (j + 1) := by rw [E1.out]; exact IntWalk.i64_in _ (by omega)
              have ql : decide ((j : Int) < (CL.length : Int)) = true := decide_eq_true (by omega)
              obtain ⟨zz, hzz⟩ : ∃ zz, pc (gi CL j) = zz := ⟨_, rfl⟩
              rw [hzz] at a7 hcc
              have HZZ := hid hzz
              have r1 : Int.tmod SN zz = 0 := by rw [hcc]; exact Int.mul_tmod_left _ _
              have r2 : (zz == 0) = false := by rw [beq_eq_false_iff_ne]; omega
              have r3 : ¬ zz = 0 := by omega
              have r4 : IntKind.i64.wrap (Int.tmod SN zz) = 0 := by rw [r1]; rfl
              clear hzz hcc
              go_wp2_with (go_at_call 27; refine (sSizeOf_c _ _ (by omega) a2).mono ?_; rw [HZZ.out]; rintro e w' ⟨rfl, rfl⟩)
              go_round
              case rel => exact ⟨j + 1, by omega, rfl, by go_num⟩
              case measure => simp [intOf]; omega
            · have ej : j = CL.length := by omega
              have ql : decide ((j : Int) < (CL.length : Int)) = false := decide_eq_false (by omega)
              have hfull := HALL.out HIC.out
              rw [← ej] at hfull
              have e1 : wrap64 (2 ^ ng.toNat) = pw ng := pw_wrap (by omega) n6
              have e2 : IntKind.u64.wrap ng = ng := IntWalk.u64_in _ (by omega)
              have hpw := pw_rng (show 0 ≤ ng by omega) n6
              have e3 : IntKind.i64.wrap (pw ng - 1) = pw ng - 1 := IntWalk.i64_in _ (by omega)
              have e4 : (accL CL j == pw ng - 1) = true := by rw [beq_iff_eq]; exact hfull
              have e5 : decide (1 ≤ SN) = true := decide_eq_true s1
              clear hfull hpw ej
              go_wp2_with fail
              go_ret
              exact ⟨rfl, HZ.out.bel⟩
      | true =>
        have hid3 := isC_iff.1 Hthree.out
        have halk : alikeB EN EL nd fd = true := by have e1 : nd = EN := HEN.out; have e2 : canL nd fd = EL := HEL.out; rw [← e2]; subst e1; exact can_alike hid3
        have HALK := hid halk
        have HAK : Hid (∀ w1, Rd w1 (.slice pe le ke) (ints EL) → Rd w1 (.slice pd ld kd) (ints fd) → _) := fun w1 h h2 => AreAlike_c EN nd (.slice pe le ke) (.slice pd ld kd) EL fd w1 h h2
        unfold cx at HAK
        clear hid3 halk
        have b0 := (((((((((((((((HF6_.out).tail).tail).tail).tail).tail).tail).tail).tail).tail).tail).tail).tail).tail).tail).hd.c0
        have b1 := (((((((((((((((HF6_.out).tail).tail).tail).tail).tail).tail).tail).tail).tail).tail).tail).tail).tail).tail).hd.c1
        have b2 := (((((((((((((((((HF6_.out).tail).tail).tail).tail).tail).tail).tail).tail).tail).tail).tail).tail).tail).tail).tail).tail).hd.c0
        have b3 := (((((((((((((((((HF6_.out).tail).tail).tail).tail).tail).tail).tail).tail).tail).tail).tail).tail).tail).tail).tail).tail).hd.c1
        go_wp2_with fail
        refine (HAK.out _ ((((((((((((((((HF6_.out).tail).tail).tail).tail).tail).tail).tail).tail).tail).tail).tail).tail).tail).tail).tail).hd ((((((((((((((((((HF6_.out).tail).tail).tail).tail).tail).tail).tail).tail).tail).tail).tail).tail).tail).tail).tail).tail).tail).hd).mono ?_
        rw [HALK.out]
        rintro e wq ⟨rfl, hN⟩
        have HQ := hid ((HF6_.out).quiet hN)
        clear hN b0 b1 b2 b3
        have hr := ((((((HQ.out).tail).tail).tail).tail).tail).hd
        have HRC := hid hr
        have lcl := hr.iln tI
        clear hr
        cases hgc : isC ng fg with
        | false =>
          obtain ⟨e1, e2⟩ := HNONE.out hgc
          have e3 : (CL.length : Int) = 0 := by rw [e1]; rfl
          clear e1
          have g0 := (((((((HQ.out).tail).tail).tail).tail).tail).tail).hd.c0
          have g1 := (((((((HQ.out).tail).tail).tail).tail).tail).tail).hd.c1
          subst e2
          go_wp2_with fail
          refine (HG5.out _ ((((((((HQ.out).tail).tail).tail).tail).tail).tail).tail).hd).mono ?_
          rw [hgc]
          rintro e wz ⟨rfl, hN⟩
          have HZ := hid ((HQ.out).quiet hN)
          clear hN g0 g1 hgc
          go_wp2_with fail
          go_ret
          exact ⟨rfl, HZ.out.bel⟩
        | true =>
          have HIC := hid (isC_iff.1 hgc)
          have g0 := (((((((HQ.out).tail).tail).tail).tail).tail).tail).hd.c0
          have g1 := (((((((HQ.out).tail).tail).tail).tail).tail).tail).hd.c1
          go_wp2_with fail
          refine (HG5.out _ ((((((((HQ.out).tail).tail).tail).tail).tail).tail).tail).hd).mono ?_
          rw [hgc]
          rintro e wz ⟨rfl, hN⟩
          have hZ := (HQ.out).quiet hN
          clear g0 g1
          have g0 := (((((((hZ).tail).tail).tail).tail).tail).tail).hd.c0
          have hr := ((((((hZ).tail).tail).tail).tail).tail).hd
          have HRZ := hid hr
          have HZ := hid hZ
          have lcz := hr.iln tI
          have h6 := HP6.out HIC.out
          obtain ⟨s1, s2⟩ := HSR.out HIC.out
          have n1 : 1 ≤ ng := HIC.out.1
          have n6 : ng ≤ 6 := HIC.out.2.1
          clear hN hZ hr hgc lcl
          go_wp2_with fail
          go_loop [25, 26] (fun s i => ∃ j : Nat, j ≤ CL.length ∧ s = .int .i64 (accL CL j) ∧ i = .int .i64 j) (fun _ i => CL.length - (intOf i).toNat)
          case atStart => exact ⟨0, Nat.zero_le _, rfl, rfl⟩
          case round =>
            obtain ⟨j, hj, rfl, rfl⟩ := hrel
            by_cases hlt : j < CL.length
            · have f1 := HRZ.out.iix tI j hlt
              have f2 := HRZ.out.intCell j hlt
              obtain ⟨a1, a2, a3, a4, a5, a6, a7⟩ := HAT.out HIC.out j hlt
              obtain ⟨cc, hcc⟩ := HDV.out HIC.out j hlt
              have E1 : Hid (accL CL (j + 1) = accL CL j + gi CL j) := rfl
              have e1 : IntKind.i64.wrap (accL CL j + gi CL j) = accL CL (j + 1) := by rw [E1.out]; exact IntWalk.i64_in _ (by omega)
              have ql : decide ((j : Int) < (CL.length : Int)) = true := decide_eq_true (by omega)
              obtain ⟨zz, hzz⟩ : ∃ zz, pc (gi CL j) = zz := ⟨_, rfl⟩
              rw [hzz] at a7 hcc
              have HZZ := hid hzz
              have r1 : Int.tmod SN zz = 0 := by rw [hcc]; exact Int.mul_tmod_left _ _
              have r2 : (zz == 0) = false := by rw [beq_eq_false_iff_ne]; omega
              have r3 : ¬ zz = 0 := by omega
              have r4 : IntKind.i64.wrap (Int.tmod SN zz) = 0 := by rw [r1]; rfl
              clear hzz hcc
              go_wp2_with (go_at_call 27; refine (sSizeOf_c _ _ (by omega) a2).mono ?_; rw [HZZ.out]; rintro e w' ⟨rfl, rfl⟩)
              go_round
              case rel => exact ⟨j + 1, by omega, rfl, by go_num⟩
              case measure => simp [intOf]; omega
            · have ej : j = CL.length := by omega
              have ql : decide ((j : Int) < (CL.length : Int)) = false := decide_eq_false (by omega)
              have hfull := HALL.out HIC.out
              rw [← ej] at hfull
              have e1 : wrap64 (2 ^ ng.toNat) = pw ng := pw_wrap (by omega) n6
              have e2 : IntKind.u64.wrap ng = ng := IntWalk.u64_in _ (by omega)
              have hpw := pw_rng (show 0 ≤ ng by omega) n6
              have e3 : IntKind.i64.wrap (pw ng - 1) = pw ng - 1 := IntWalk.i64_in _ (by omega)
              have e4 : (accL CL j == pw ng - 1) = true := by rw [beq_iff_eq]; exact hfull
              have e5 : decide (1 ≤ SN) = true := decide_eq_true s1
              clear hfull hpw ej
              go_wp2_with fail
              go_ret
              exact ⟨rfl, HZ.out.bel⟩

theorem own : ownKnob Tryz.prog.godebug = none := by kernel_rfl
theorem laidOut : laidOutB Tryz.prog = true := by kernel_rfl

set_option maxRecDepth 100000 in
theorem lifted (os : Os) (started : os.Started) (H : Type) (enc : TypeId × Value → H) :
    ReturnsInHanded {} Tryz.checked os 3 .any (Rows.fnNamedSpec.pre6 enc Tryz.prog Tryz.f3 Rows.fnNamedRow.domain false) (Rows.fnNamedSpec.post enc Tryz.prog Tryz.f3 false true false false) := by
  refine returnsInHanded_of_change (C := Tryz.checked) own started (by kernel_rfl) Tryz.func3
    (ChangeSpec.witness6 (enc := enc) (C := Tryz.checked) false ⟨#[], #[.slice none 0 0], []⟩ 8 (by kernel_rfl) (by kernel_rfl) (by kernel_rfl) (by kernel_rfl)) ?_
  intro W base args ds gs before hval0 hW hcnd _
  have hval : ∀ (j : Nat) t v, Tryz.f3.params[j]? = some t → args[j]? = some v → Value.okWide Tryz.prog W .any base t v := hval0
  have hW' := hW
  obtain ⟨p, q, hA0, hV, rfl, hfz, hnd⟩ := hW
  have hA : DataW.TrodAll enc Tryz.prog W 0 (fun _ => true) true Tryz.f3.params.toList args.toList ds p := hA0
  rw [Tryz.params3] at hA hval
  obtain ⟨v0, vs0, d0, ds0, p0, q0, hargs, rfl, rfl, h0, r0⟩ := trodAll_cons hA
  obtain ⟨rfl, rfl, rfl⟩ := trodAll_nil r0
  obtain rfl : args = #[v0] := by cases args; simp_all
  obtain ⟨rfl, rfl⟩ := trodVars_none hV
  obtain ⟨s0, len0, cap0, rfl⟩ := okWide_slice Tryz.underlying22 (hval 0 22 v0 rfl rfl)
  have k0 := h0
  have lt0 : ∀ x ∈ p0, x.block < W.heap.size := by obtain ⟨m, hm⟩ := k0; exact DataW.trod_lt m _ _ _ hm
  obtain ⟨z0, g0⟩ : ∃ zs, Rd W (.slice s0 len0 cap0) (byts zs) := by
    obtain ⟨fuel, hf⟩ := h0
    rcases open_ints Tryz.underlying22 Tryz.underlying5 (by kernel_rfl) hf with ⟨hcs, _⟩ | ⟨x, l, c, zs, hcs, _, hl, hm, hz, _, hcell, _⟩
    · simp [Value.cells] at hcs
      obtain ⟨rfl, rfl, rfl⟩ := hcs
      exact ⟨[], .inl ⟨rfl, rfl⟩⟩
    · simp [Value.cells] at hcs
      obtain ⟨rfl, rfl, rfl⟩ := hcs
      exact ⟨_, rdB_of_open hl hm (by simp at hz; omega) hcell⟩
  clear hA0 hval0
  refine (law_c _ z0 W g0).mono fun e W' ⟨he, bel⟩ => ?_
  subst he
  exact ⟨_, rfl, _, _, _, [], _, [], hW', trodAll_mk1 (shut_bool Tryz.underlying4 _), (trodAll_cons_mk (Below.trod laidOut (by kernel_rfl) (of_decide_eq_true (by kernel_rfl)) k0 bel lt0) trodAll_mk0), rfl, bel.frame _, fun h => by cases h⟩

theorem over : Rows.fnNamedRow.holds Tryz.pinned (OpenSpec.ofChange Rows.fnNamedSpec) :=
  OpenClaim.holds_of_wide 3 Tryz.f3 rfl rfl rfl rfl rfl rfl rfl ⟨rfl, rfl, rfl, rfl, rfl⟩ rfl rfl rfl rfl rfl (by kernel_rfl) Tryz.func3 (by kernel_rfl)
    (of_decide_eq_true (by kernel_rfl)) (by unfold Func.isWrapper; first | (rw [if_pos (by decide +kernel)]; kernel_rfl) | (rw [if_neg (by decide +kernel)]; exact ⟨rfl, rfl⟩))
    (fun os started H enc _ => lifted os started H enc)

theorem proved : Rows.FnNamedSaid :=
  over
end Go.Proofs.YtjaofbdfhcgmeaaGreat.fnNamed
