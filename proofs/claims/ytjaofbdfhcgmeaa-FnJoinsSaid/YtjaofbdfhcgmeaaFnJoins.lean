/-
  The statement Rows.FnJoinsSaid: the law answers true at every input, and its arguments read afterwards as before. No further condition.
-/
import Derived.Test.YtjaofbdfhcgmeaaJoLaw
import Derived.ProofKit
import Derived.OpenShut
import Derived.ChangeOld
namespace Go.Proofs.Ytjaofbdfhcgmeaa.fnJoins
open Go.ChangeShapes Go.WideShapes Go.ChangeAt Go.RowKit
set_option linter.unusedVariables false

set_option maxHeartbeats 80000000 in
set_option maxRecDepth 100000 in
theorem law_c (u : Value) (z : List Int) (w : World) (g0 : Rd w u (byts z)) : Calls Try.prog 5 #[u] w fun e w' => e = .returned (.bool true) ∧ Below w.heap.size w w' := by
  by_cases hbig : 1048576 < (z.length : Int)
  · go_enter Try.func5, Try.ntmps5
    go_wp2_with (go_at_call 8; refine (big_c u z _ g0).mono ?_; rw [decide_eq_true hbig]; rintro e w' ⟨rfl, rfl⟩)
    go_ret
    exact ⟨rfl, Below.refl _ _⟩
  · have HS := hid (St.start w)
    have G := hid g0
    have HBG := hid (decide_eq_false hbig)
    clear hbig
    go_enter Try.func5, Try.ntmps5
    go_wp2_with (go_at_call 8; refine (big_c u z _ g0).mono ?_; rw [HBG.out]; rintro e w' ⟨rfl, rfl⟩)
    refine (DrawJoinOf_c u z _ g0).mono ?_
    rintro e w1 ⟨na, va, fa, nb, vb, fb, rfl, _, _, hN⟩
    obtain ⟨pa, la, ka, rfl⟩ := hN.tail.hd.form
    obtain ⟨pb, lb, kb, rfl⟩ := hN.hd.form
    have hS := ((HS.out.call hN).boxAt na (.slice pa la ka) 30 (H := w1.heap.size) rfl).boxAt nb (.slice pb lb kb) 30 (H := w1.heap.size + 1) (by simp)
    have c0 := ((hS).tail).hd.c0
    have c1 := ((hS).tail).hd.c1
    have c2 := (hS).hd.c0
    have c3 := (hS).hd.c1
    have HS1 := hid hS
    clear hN hS
    obtain ⟨ok, hok⟩ : ∃ x, fitB na fa nb fb = x := ⟨_, rfl⟩
    have Hok := hid hok
    obtain ⟨JN, hJN⟩ : ∃ x, resN ok (na + nb) = x := ⟨_, rfl⟩
    have HJN := hid hJN
    obtain ⟨JL, hJL⟩ : ∃ x, resL ok (joinL na fa fb) = x := ⟨_, rfl⟩
    have HJL := hid hJL
    have qok : (ok != ok) = false := by simp
    have HJ1 : Hid (∀ w1, Rd w1 (.slice pa la ka) (ints fa) → Rd w1 (.slice pb lb kb) (ints fb) → Calls Try.prog 45 #[cx na (.slice pa la ka), cx nb (.slice pb lb kb)] w1 fun e w' => ∃ v, e = .returned (.tuple #[cx JN v, .bool ok]) ∧ St w1 w' [⟨v, 3, ints JL⟩]) := fun w1 ha hb => by have := JoinOf_c na nb _ _ fa fb w1 ha hb; rwa [hok, hJN, hJL] at this
    have HJ2 : Hid (∀ w1, Rd w1 (.slice pa la ka) (ints fa) → Rd w1 (.slice pb lb kb) (ints fb) → Calls Try.prog 46 #[cx na (.slice pa la ka), cx nb (.slice pb lb kb)] w1 fun e w' => ∃ v, e = .returned (.tuple #[cx JN v, .bool ok]) ∧ St w1 w' [⟨v, 3, ints JL⟩]) := fun w1 ha hb => by have := sJoinOf_c na nb _ _ fa fb w1 ha hb; rwa [hok, hJN, hJL] at this
    clear hok hJN hJL
    unfold cx at HJ1 HJ2 ⊢
    go_wp2_with fail
    refine (HJ1.out _ ((((HS1.out).tail).tail).tail).hd (((HS1.out).tail).tail).hd).mono ?_
    rintro e w2 ⟨vj, rfl, hN⟩
    obtain ⟨pj, lj, kj, rfl⟩ := hN.hd.form
    have hS := (HS1.out.call1 hN).boxAt JN (.slice pj lj kj) 30 (H := w2.heap.size) rfl
    clear c0 c1 c2 c3
    have c0 := ((((hS).tail).tail).tail).hd.c0
    have c1 := ((((hS).tail).tail).tail).hd.c1
    have c2 := (((hS).tail).tail).hd.c0
    have c3 := (((hS).tail).tail).hd.c1
    have HS2 := hid hS
    clear hN hS
    try unfold cx
    go_wp2_with fail
    refine (HJ2.out _ ((((((HS2.out).tail).tail).tail).tail).tail).hd (((((HS2.out).tail).tail).tail).tail).hd).mono ?_
    rintro e w3 ⟨vi, rfl, hN⟩
    obtain ⟨pi, li, ki, rfl⟩ := hN.hd.form
    have hS := (HS2.out.call1 hN).boxAt JN (.slice pi li ki) 30 (H := w3.heap.size) rfl
    clear c0 c1 c2 c3
    have HS3 := hid hS
    clear hN hS
    try unfold cx
    go_wp2_with fail
    refine (DrawDisjointOf_c u z _ (HS3.out.old G.out)).mono ?_
    rintro e w4 ⟨nd, vd, fd, ne, ve, fe, rfl, _, _, hN⟩
    obtain ⟨pd, ld, kd, rfl⟩ := hN.tail.hd.form
    obtain ⟨pe, le, ke, rfl⟩ := hN.hd.form
    have hS := ((HS3.out.call hN).boxAt nd (.slice pd ld kd) 30 (H := w4.heap.size) rfl).boxAt ne (.slice pe le ke) 30 (H := w4.heap.size + 1) (by simp)
    have c0 := ((hS).tail).hd.c0
    have c1 := ((hS).tail).hd.c1
    have c2 := (hS).hd.c0
    have c3 := (hS).hd.c1
    have HS4 := hid hS
    clear hN hS
    obtain ⟨one, hone⟩ : ∃ x, fitB nd fd ne fe = x := ⟨_, rfl⟩
    have Hone := hid hone
    obtain ⟨UN, hUN⟩ : ∃ x, resN one (nd + ne) = x := ⟨_, rfl⟩
    have HUN := hid hUN
    obtain ⟨UL, hUL⟩ : ∃ x, resL one (disL nd fd fe) = x := ⟨_, rfl⟩
    have HUL := hid hUL
    have qone : (one != one) = false := by simp
    have HU1 : Hid (∀ w1, Rd w1 (.slice pd ld kd) (ints fd) → Rd w1 (.slice pe le ke) (ints fe) → Calls Try.prog 48 #[cx nd (.slice pd ld kd), cx ne (.slice pe le ke)] w1 fun e w' => ∃ v, e = .returned (.tuple #[cx UN v, .bool one]) ∧ St w1 w' [⟨v, 3, ints UL⟩]) := fun w1 hd he => by have := DisjointOf_c nd ne _ _ fd fe w1 hd he; rwa [hone, hUN, hUL] at this
    have HU2 : Hid (∀ w1, Rd w1 (.slice pd ld kd) (ints fd) → Rd w1 (.slice pe le ke) (ints fe) → Calls Try.prog 49 #[cx nd (.slice pd ld kd), cx ne (.slice pe le ke)] w1 fun e w' => ∃ v, e = .returned (.tuple #[cx UN v, .bool one]) ∧ St w1 w' [⟨v, 3, ints UL⟩]) := fun w1 hd he => by have := sDisjointOf_c nd ne _ _ fd fe w1 hd he; rwa [hone, hUN, hUL] at this
    clear hone hUN hUL
    unfold cx at HU1 HU2 ⊢
    go_wp2_with fail
    refine (HU1.out _ ((((HS4.out).tail).tail).tail).hd (((HS4.out).tail).tail).hd).mono ?_
    rintro e w5 ⟨vq, rfl, hN⟩
    obtain ⟨pq, lq, kq, rfl⟩ := hN.hd.form
    have hS := (HS4.out.call1 hN).boxAt UN (.slice pq lq kq) 30 (H := w5.heap.size) rfl
    clear c0 c1 c2 c3
    have c0 := ((((hS).tail).tail).tail).hd.c0
    have c1 := ((((hS).tail).tail).tail).hd.c1
    have c2 := (((hS).tail).tail).hd.c0
    have c3 := (((hS).tail).tail).hd.c1
    have HS5 := hid hS
    clear hN hS
    try unfold cx
    go_wp2_with fail
    refine (HU2.out _ ((((((HS5.out).tail).tail).tail).tail).tail).hd (((((HS5.out).tail).tail).tail).tail).hd).mono ?_
    rintro e w6 ⟨vv, rfl, hN⟩
    obtain ⟨pv, lv, kv, rfl⟩ := hN.hd.form
    have hS := (HS5.out.call1 hN).boxAt UN (.slice pv lv kv) 30 (H := w6.heap.size) rfl
    clear c0 c1 c2 c3
    have HS6 := hid hS
    clear hN hS
    try unfold cx
    go_wp2_with fail
    refine (DrawConeOf_c u z _ (HS6.out.old G.out)).mono ?_
    rintro e w7 ⟨nc, vc, fc, rfl, _, hN⟩
    obtain ⟨pc, lc, kc, rfl⟩ := hN.hd.form
    have hS := (HS6.out.call1 hN).boxAt nc (.slice pc lc kc) 30 (H := w7.heap.size) rfl
    have c0 := (hS).hd.c0
    have c1 := (hS).hd.c1
    have HS7 := hid hS
    clear hN hS
    obtain ⟨three, hthree⟩ : ∃ x, coneB nc fc = x := ⟨_, rfl⟩
    have Hthree := hid hthree
    obtain ⟨XN, hXN⟩ : ∃ x, resN three (nc + 1) = x := ⟨_, rfl⟩
    have HXN := hid hXN
    obtain ⟨XL, hXL⟩ : ∃ x, resL three (coneL nc fc) = x := ⟨_, rfl⟩
    have HXL := hid hXL
    have qthree : (three != three) = false := by simp
    have HX1 : Hid (∀ w1, Rd w1 (.slice pc lc kc) (ints fc) → Calls Try.prog 51 #[cx nc (.slice pc lc kc)] w1 fun e w' => ∃ v, e = .returned (.tuple #[cx XN v, .bool three]) ∧ St w1 w' [⟨v, 3, ints XL⟩]) := fun w1 hc => by have := ConeOf_c nc _ fc w1 hc; rwa [hthree, hXN, hXL] at this
    have HX2 : Hid (∀ w1, Rd w1 (.slice pc lc kc) (ints fc) → Calls Try.prog 52 #[cx nc (.slice pc lc kc)] w1 fun e w' => ∃ v, e = .returned (.tuple #[cx XN v, .bool three]) ∧ St w1 w' [⟨v, 3, ints XL⟩]) := fun w1 hc => by have := sConeOf_c nc _ fc w1 hc; rwa [hthree, hXN, hXL] at this
    obtain ⟨five, hfive⟩ : ∃ x, susB nc fc = x := ⟨_, rfl⟩
    have Hfive := hid hfive
    obtain ⟨SN, hSN⟩ : ∃ x, resN five (nc + 2) = x := ⟨_, rfl⟩
    have HSN := hid hSN
    obtain ⟨SLs, hSLs⟩ : ∃ x, resL five (susL nc fc) = x := ⟨_, rfl⟩
    have HSLs := hid hSLs
    have qfive : (five != five) = false := by simp
    have HT1 : Hid (∀ w1, Rd w1 (.slice pc lc kc) (ints fc) → Calls Try.prog 53 #[cx nc (.slice pc lc kc)] w1 fun e w' => ∃ v, e = .returned (.tuple #[cx SN v, .bool five]) ∧ St w1 w' [⟨v, 3, ints SLs⟩]) := fun w1 hc => by have := SuspensionOf_c nc _ fc w1 hc; rwa [hfive, hSN, hSLs] at this
    have HT2 : Hid (∀ w1, Rd w1 (.slice pc lc kc) (ints fc) → Calls Try.prog 54 #[cx nc (.slice pc lc kc)] w1 fun e w' => ∃ v, e = .returned (.tuple #[cx SN v, .bool five]) ∧ St w1 w' [⟨v, 3, ints SLs⟩]) := fun w1 hc => by have := sSuspensionOf_c nc _ fc w1 hc; rwa [hfive, hSN, hSLs] at this
    clear hthree hXN hXL hfive hSN hSLs
    unfold cx at HX1 HX2 HT1 HT2 ⊢
    go_wp2_with fail
    refine (HX1.out _ ((HS7.out).tail).hd).mono ?_
    rintro e w8 ⟨vx, rfl, hN⟩
    obtain ⟨px, lx, kx, rfl⟩ := hN.hd.form
    have hS := (HS7.out.call1 hN).boxAt XN (.slice px lx kx) 30 (H := w8.heap.size) rfl
    clear c0 c1
    have c0 := (((hS).tail).tail).hd.c0
    have c1 := (((hS).tail).tail).hd.c1
    have HS8 := hid hS
    clear hN hS
    try unfold cx
    go_wp2_with fail
    refine (HX2.out _ ((((HS8.out).tail).tail).tail).hd).mono ?_
    rintro e w9 ⟨vy, rfl, hN⟩
    obtain ⟨py, ly, ky, rfl⟩ := hN.hd.form
    have hS := (HS8.out.call1 hN).boxAt XN (.slice py ly ky) 30 (H := w9.heap.size) rfl
    clear c0 c1
    have c0 := (((((hS).tail).tail).tail).tail).hd.c0
    have c1 := (((((hS).tail).tail).tail).tail).hd.c1
    have HS9 := hid hS
    clear hN hS
    try unfold cx
    go_wp2_with fail
    refine (HT1.out _ ((((((HS9.out).tail).tail).tail).tail).tail).hd).mono ?_
    rintro e w10 ⟨vs, rfl, hN⟩
    obtain ⟨ps, ls, ks, rfl⟩ := hN.hd.form
    have hS := (HS9.out.call1 hN).boxAt SN (.slice ps ls ks) 30 (H := w10.heap.size) rfl
    clear c0 c1
    have c0 := (((((((hS).tail).tail).tail).tail).tail).tail).hd.c0
    have c1 := (((((((hS).tail).tail).tail).tail).tail).tail).hd.c1
    have HS10 := hid hS
    clear hN hS
    try unfold cx
    go_wp2_with fail
    refine (HT2.out _ ((((((((HS10.out).tail).tail).tail).tail).tail).tail).tail).hd).mono ?_
    rintro e w11 ⟨vt, rfl, hN⟩
    obtain ⟨pt, lt, kt, rfl⟩ := hN.hd.form
    have hS := (HS10.out.call1 hN).boxAt SN (.slice pt lt kt) 30 (H := w11.heap.size) rfl
    clear c0 c1
    have HS11 := hid hS
    clear hN hS
    try unfold cx
    go_wp2_with fail
    refine (DrawConePoints_c u z _ (HS11.out.old G.out)).mono ?_
    rintro e w12 ⟨nr, vr, fr, rfl, _, hN⟩
    obtain ⟨pr, lr, kr, rfl⟩ := hN.hd.form
    have hS := (HS11.out.call1 hN).boxAt nr (.slice pr lr kr) 30 (H := w12.heap.size) rfl
    have HS12 := hid hS
    clear hN hS
    have HR1 : Hid (∀ w1, Rd w1 (.slice pr lr kr) (ints fr) → _) := fun w1 h => ConePoints_c nr (.slice pr lr kr) fr w1 h
    have HR2 : Hid (∀ w1, Rd w1 (.slice pr lr kr) (ints fr) → _) := fun w1 h => sConePoints_c nr (.slice pr lr kr) fr w1 h
    obtain ⟨cp, hcp⟩ : ∃ cp, conB nr fr = cp := ⟨_, rfl⟩
    rw [hcp] at HR1 HR2
    clear hcp
    have qcp : (cp != cp) = false := by simp
    unfold cx at HR1 HR2
    try unfold cx
    go_wp2_with fail
    refine (DrawCrossComplex_c u z _ (HS12.out.old G.out)).mono ?_
    rintro e w13 ⟨kk, rfl, _, hN⟩
    have HS13 := hid (HS12.out.quiet hN)
    clear hN
    obtain ⟨seven, hseven⟩ : ∃ x, crossB kk = x := ⟨_, rfl⟩
    have Hseven := hid hseven
    obtain ⟨MN, hMN⟩ : ∃ x, resN seven (2 * kk) = x := ⟨_, rfl⟩
    have HMN := hid hMN
    obtain ⟨ML, hML⟩ : ∃ x, resL seven (crossL kk.toNat) = x := ⟨_, rfl⟩
    have HML := hid hML
    have qseven : (seven != seven) = false := by simp
    have HM1 : Hid (∀ w1, Calls Try.prog 57 #[.int .i64 kk] w1 fun e w' => ∃ v, e = .returned (.tuple #[cx MN v, .bool seven]) ∧ St w1 w' [⟨v, 3, ints ML⟩]) := fun w1 => by have := CrossComplex_c kk w1; rwa [hseven, hMN, hML] at this
    have HM2 : Hid (∀ w1, Calls Try.prog 58 #[.int .i64 kk] w1 fun e w' => ∃ v, e = .returned (.tuple #[cx MN v, .bool seven]) ∧ St w1 w' [⟨v, 3, ints ML⟩]) := fun w1 => by have := sCrossComplex_c kk w1; rwa [hseven, hMN, hML] at this
    clear hseven hMN hML
    unfold cx at HM1 HM2
    go_wp2_with fail
    refine (HM1.out _ ).mono ?_
    rintro e w14 ⟨vm, rfl, hN⟩
    obtain ⟨pm, lm, km, rfl⟩ := hN.hd.form
    have hS := (HS13.out.call1 hN).boxAt MN (.slice pm lm km) 30 (H := w14.heap.size) rfl
    have HS14 := hid hS
    clear hN hS
    try unfold cx
    go_wp2_with fail
    refine (HM2.out _ ).mono ?_
    rintro e w15 ⟨vn, rfl, hN⟩
    obtain ⟨pn, ln, kn, rfl⟩ := hN.hd.form
    have hS := (HS14.out.call1 hN).boxAt MN (.slice pn ln kn) 30 (H := w15.heap.size) rfl
    have c0 := (((((((((((((((((((((((((((hS).tail).tail).tail).tail).tail).tail).tail).tail).tail).tail).tail).tail).tail).tail).tail).tail).tail).tail).tail).tail).tail).tail).tail).tail).tail).tail).hd.c0
    have c1 := (((((((((((((((((((((((((((hS).tail).tail).tail).tail).tail).tail).tail).tail).tail).tail).tail).tail).tail).tail).tail).tail).tail).tail).tail).tail).tail).tail).tail).tail).tail).tail).hd.c1
    have c2 := (((((((((((((((((((((((((hS).tail).tail).tail).tail).tail).tail).tail).tail).tail).tail).tail).tail).tail).tail).tail).tail).tail).tail).tail).tail).tail).tail).tail).tail).hd.c0
    have c3 := (((((((((((((((((((((((((hS).tail).tail).tail).tail).tail).tail).tail).tail).tail).tail).tail).tail).tail).tail).tail).tail).tail).tail).tail).tail).tail).tail).tail).tail).hd.c1
    have c4 := (((((((((((((((((((hS).tail).tail).tail).tail).tail).tail).tail).tail).tail).tail).tail).tail).tail).tail).tail).tail).tail).tail).hd.c0
    have c5 := (((((((((((((((((((hS).tail).tail).tail).tail).tail).tail).tail).tail).tail).tail).tail).tail).tail).tail).tail).tail).tail).tail).hd.c1
    have c6 := (((((((((((((((((hS).tail).tail).tail).tail).tail).tail).tail).tail).tail).tail).tail).tail).tail).tail).tail).tail).hd.c0
    have c7 := (((((((((((((((((hS).tail).tail).tail).tail).tail).tail).tail).tail).tail).tail).tail).tail).tail).tail).tail).tail).hd.c1
    have c8 := (((((((((((((hS).tail).tail).tail).tail).tail).tail).tail).tail).tail).tail).tail).tail).hd.c0
    have c9 := (((((((((((((hS).tail).tail).tail).tail).tail).tail).tail).tail).tail).tail).tail).tail).hd.c1
    have c10 := (((((((((((hS).tail).tail).tail).tail).tail).tail).tail).tail).tail).tail).hd.c0
    have c11 := (((((((((((hS).tail).tail).tail).tail).tail).tail).tail).tail).tail).tail).hd.c1
    have c12 := (((((((((hS).tail).tail).tail).tail).tail).tail).tail).tail).hd.c0
    have c13 := (((((((((hS).tail).tail).tail).tail).tail).tail).tail).tail).hd.c1
    have c14 := (((((((hS).tail).tail).tail).tail).tail).tail).hd.c0
    have c15 := (((((((hS).tail).tail).tail).tail).tail).tail).hd.c1
    have c16 := (((((hS).tail).tail).tail).tail).hd.c0
    have c17 := (((((hS).tail).tail).tail).tail).hd.c1
    have c18 := (((hS).tail).tail).hd.c0
    have c19 := (((hS).tail).tail).hd.c1
    have c20 := (hS).hd.c0
    have c21 := (hS).hd.c1
    have HS15 := hid hS
    clear hN hS
    try unfold cx
    have HC1 : Hid (∀ w1, Rd w1 (.slice pj lj kj) (ints JL) → Rd w1 (.slice pi li ki) (ints JL) → _) := fun w1 h h2 => sameCx_c JN (.slice pj lj kj) (.slice pi li ki) JL w1 h h2
    have HC2 : Hid (∀ w1, Rd w1 (.slice pq lq kq) (ints UL) → Rd w1 (.slice pv lv kv) (ints UL) → _) := fun w1 h h2 => sameCx_c UN (.slice pq lq kq) (.slice pv lv kv) UL w1 h h2
    have HC3 : Hid (∀ w1, Rd w1 (.slice px lx kx) (ints XL) → Rd w1 (.slice py ly ky) (ints XL) → _) := fun w1 h h2 => sameCx_c XN (.slice px lx kx) (.slice py ly ky) XL w1 h h2
    have HC4 : Hid (∀ w1, Rd w1 (.slice ps ls ks) (ints SLs) → Rd w1 (.slice pt lt kt) (ints SLs) → _) := fun w1 h h2 => sameCx_c SN (.slice ps ls ks) (.slice pt lt kt) SLs w1 h h2
    have HC5 : Hid (∀ w1, Rd w1 (.slice pm lm km) (ints ML) → Rd w1 (.slice pn ln kn) (ints ML) → _) := fun w1 h h2 => sameCx_c MN (.slice pm lm km) (.slice pn ln kn) ML w1 h h2
    unfold cx at HC1 HC2 HC3 HC4 HC5
    try unfold cx
    go_wp2_with fail
    generalize w15.alloc _ = w16 at *
    go_region_held3 (fun w' => w'.cell? ⟨w2.heap.size, 0, none⟩ = some (.int .i64 (JN)) ∧ w'.cell? ⟨w2.heap.size, 1, none⟩ = some (.slice pj lj kj) ∧ w'.cell? ⟨w3.heap.size, 0, none⟩ = some (.int .i64 (JN)) ∧ w'.cell? ⟨w3.heap.size, 1, none⟩ = some (.slice pi li ki) ∧ w'.cell? ⟨w5.heap.size, 0, none⟩ = some (.int .i64 (UN)) ∧ w'.cell? ⟨w5.heap.size, 1, none⟩ = some (.slice pq lq kq) ∧ w'.cell? ⟨w6.heap.size, 0, none⟩ = some (.int .i64 (UN)) ∧ w'.cell? ⟨w6.heap.size, 1, none⟩ = some (.slice pv lv kv) ∧ w'.cell? ⟨w8.heap.size, 0, none⟩ = some (.int .i64 (XN)) ∧ w'.cell? ⟨w8.heap.size, 1, none⟩ = some (.slice px lx kx) ∧ w'.cell? ⟨w9.heap.size, 0, none⟩ = some (.int .i64 (XN)) ∧ w'.cell? ⟨w9.heap.size, 1, none⟩ = some (.slice py ly ky) ∧ w'.cell? ⟨w10.heap.size, 0, none⟩ = some (.int .i64 (SN)) ∧ w'.cell? ⟨w10.heap.size, 1, none⟩ = some (.slice ps ls ks) ∧ w'.cell? ⟨w11.heap.size, 0, none⟩ = some (.int .i64 (SN)) ∧ w'.cell? ⟨w11.heap.size, 1, none⟩ = some (.slice pt lt kt) ∧ w'.cell? ⟨w12.heap.size, 0, none⟩ = some (.int .i64 (nr)) ∧ w'.cell? ⟨w12.heap.size, 1, none⟩ = some (.slice pr lr kr) ∧ w'.cell? ⟨w14.heap.size, 0, none⟩ = some (.int .i64 (MN)) ∧ w'.cell? ⟨w14.heap.size, 1, none⟩ = some (.slice pm lm km) ∧ w'.cell? ⟨w15.heap.size, 0, none⟩ = some (.int .i64 (MN)) ∧ w'.cell? ⟨w15.heap.size, 1, none⟩ = some (.slice pn ln kn)) (first | go_keep | exact ⟨k0, k1, k2, k3, k4, k5, k6, k7, k8, k9, k10, k11, k12, k13, k14, k15, k16, k17, k18, k19, k20, k21⟩ | exact ⟨c0, c1, c2, c3, c4, c5, c6, c7, c8, c9, c10, c11, c12, c13, c14, c15, c16, c17, c18, c19, c20, c21⟩)
      (first
        | (go_at_call 21; refine (HC5.out _ ((((HA6.out).tail).tail).tail).hd ((HA6.out).tail).hd).mono ?_; rintro e wa7 ⟨rfl, hN⟩; have hA := (HA6.out).quiet hN; have k0 := (((((((((((((((((((((((((((hA).tail).tail).tail).tail).tail).tail).tail).tail).tail).tail).tail).tail).tail).tail).tail).tail).tail).tail).tail).tail).tail).tail).tail).tail).tail).tail).hd.c0; have k1 := (((((((((((((((((((((((((((hA).tail).tail).tail).tail).tail).tail).tail).tail).tail).tail).tail).tail).tail).tail).tail).tail).tail).tail).tail).tail).tail).tail).tail).tail).tail).tail).hd.c1; have k2 := (((((((((((((((((((((((((hA).tail).tail).tail).tail).tail).tail).tail).tail).tail).tail).tail).tail).tail).tail).tail).tail).tail).tail).tail).tail).tail).tail).tail).tail).hd.c0; have k3 := (((((((((((((((((((((((((hA).tail).tail).tail).tail).tail).tail).tail).tail).tail).tail).tail).tail).tail).tail).tail).tail).tail).tail).tail).tail).tail).tail).tail).tail).hd.c1; have k4 := (((((((((((((((((((hA).tail).tail).tail).tail).tail).tail).tail).tail).tail).tail).tail).tail).tail).tail).tail).tail).tail).tail).hd.c0; have k5 := (((((((((((((((((((hA).tail).tail).tail).tail).tail).tail).tail).tail).tail).tail).tail).tail).tail).tail).tail).tail).tail).tail).hd.c1; have k6 := (((((((((((((((((hA).tail).tail).tail).tail).tail).tail).tail).tail).tail).tail).tail).tail).tail).tail).tail).tail).hd.c0; have k7 := (((((((((((((((((hA).tail).tail).tail).tail).tail).tail).tail).tail).tail).tail).tail).tail).tail).tail).tail).tail).hd.c1; have k8 := (((((((((((((hA).tail).tail).tail).tail).tail).tail).tail).tail).tail).tail).tail).tail).hd.c0; have k9 := (((((((((((((hA).tail).tail).tail).tail).tail).tail).tail).tail).tail).tail).tail).tail).hd.c1; have k10 := (((((((((((hA).tail).tail).tail).tail).tail).tail).tail).tail).tail).tail).hd.c0; have k11 := (((((((((((hA).tail).tail).tail).tail).tail).tail).tail).tail).tail).tail).hd.c1; have k12 := (((((((((hA).tail).tail).tail).tail).tail).tail).tail).tail).hd.c0; have k13 := (((((((((hA).tail).tail).tail).tail).tail).tail).tail).tail).hd.c1; have k14 := (((((((hA).tail).tail).tail).tail).tail).tail).hd.c0; have k15 := (((((((hA).tail).tail).tail).tail).tail).tail).hd.c1; have k16 := (((((hA).tail).tail).tail).tail).hd.c0; have k17 := (((((hA).tail).tail).tail).tail).hd.c1; have k18 := (((hA).tail).tail).hd.c0; have k19 := (((hA).tail).tail).hd.c1; have k20 := (hA).hd.c0; have k21 := (hA).hd.c1; have HA7 := hid hA; clear hA hN)
        | (go_at_call 60; refine (HR2.out _ ((((((HA5.out).tail).tail).tail).tail).tail).hd).mono ?_; rintro e wa6 ⟨rfl, hN⟩; have hA := (HA5.out).quiet hN; have k0 := (((((((((((((((((((((((((((hA).tail).tail).tail).tail).tail).tail).tail).tail).tail).tail).tail).tail).tail).tail).tail).tail).tail).tail).tail).tail).tail).tail).tail).tail).tail).tail).hd.c0; have k1 := (((((((((((((((((((((((((((hA).tail).tail).tail).tail).tail).tail).tail).tail).tail).tail).tail).tail).tail).tail).tail).tail).tail).tail).tail).tail).tail).tail).tail).tail).tail).tail).hd.c1; have k2 := (((((((((((((((((((((((((hA).tail).tail).tail).tail).tail).tail).tail).tail).tail).tail).tail).tail).tail).tail).tail).tail).tail).tail).tail).tail).tail).tail).tail).tail).hd.c0; have k3 := (((((((((((((((((((((((((hA).tail).tail).tail).tail).tail).tail).tail).tail).tail).tail).tail).tail).tail).tail).tail).tail).tail).tail).tail).tail).tail).tail).tail).tail).hd.c1; have k4 := (((((((((((((((((((hA).tail).tail).tail).tail).tail).tail).tail).tail).tail).tail).tail).tail).tail).tail).tail).tail).tail).tail).hd.c0; have k5 := (((((((((((((((((((hA).tail).tail).tail).tail).tail).tail).tail).tail).tail).tail).tail).tail).tail).tail).tail).tail).tail).tail).hd.c1; have k6 := (((((((((((((((((hA).tail).tail).tail).tail).tail).tail).tail).tail).tail).tail).tail).tail).tail).tail).tail).tail).hd.c0; have k7 := (((((((((((((((((hA).tail).tail).tail).tail).tail).tail).tail).tail).tail).tail).tail).tail).tail).tail).tail).tail).hd.c1; have k8 := (((((((((((((hA).tail).tail).tail).tail).tail).tail).tail).tail).tail).tail).tail).tail).hd.c0; have k9 := (((((((((((((hA).tail).tail).tail).tail).tail).tail).tail).tail).tail).tail).tail).tail).hd.c1; have k10 := (((((((((((hA).tail).tail).tail).tail).tail).tail).tail).tail).tail).tail).hd.c0; have k11 := (((((((((((hA).tail).tail).tail).tail).tail).tail).tail).tail).tail).tail).hd.c1; have k12 := (((((((((hA).tail).tail).tail).tail).tail).tail).tail).tail).hd.c0; have k13 := (((((((((hA).tail).tail).tail).tail).tail).tail).tail).tail).hd.c1; have k14 := (((((((hA).tail).tail).tail).tail).tail).tail).hd.c0; have k15 := (((((((hA).tail).tail).tail).tail).tail).tail).hd.c1; have k16 := (((((hA).tail).tail).tail).tail).hd.c0; have k17 := (((((hA).tail).tail).tail).tail).hd.c1; have k18 := (((hA).tail).tail).hd.c0; have k19 := (((hA).tail).tail).hd.c1; have k20 := (hA).hd.c0; have k21 := (hA).hd.c1; have HA6 := hid hA; clear hA hN)
        | (go_at_call 59; refine (HR1.out _ ((((((HA4.out).tail).tail).tail).tail).tail).hd).mono ?_; rintro e wa5 ⟨rfl, hN⟩; have hA := (HA4.out).quiet hN; have k0 := (((((((((((((((((((((((((((hA).tail).tail).tail).tail).tail).tail).tail).tail).tail).tail).tail).tail).tail).tail).tail).tail).tail).tail).tail).tail).tail).tail).tail).tail).tail).tail).hd.c0; have k1 := (((((((((((((((((((((((((((hA).tail).tail).tail).tail).tail).tail).tail).tail).tail).tail).tail).tail).tail).tail).tail).tail).tail).tail).tail).tail).tail).tail).tail).tail).tail).tail).hd.c1; have k2 := (((((((((((((((((((((((((hA).tail).tail).tail).tail).tail).tail).tail).tail).tail).tail).tail).tail).tail).tail).tail).tail).tail).tail).tail).tail).tail).tail).tail).tail).hd.c0; have k3 := (((((((((((((((((((((((((hA).tail).tail).tail).tail).tail).tail).tail).tail).tail).tail).tail).tail).tail).tail).tail).tail).tail).tail).tail).tail).tail).tail).tail).tail).hd.c1; have k4 := (((((((((((((((((((hA).tail).tail).tail).tail).tail).tail).tail).tail).tail).tail).tail).tail).tail).tail).tail).tail).tail).tail).hd.c0; have k5 := (((((((((((((((((((hA).tail).tail).tail).tail).tail).tail).tail).tail).tail).tail).tail).tail).tail).tail).tail).tail).tail).tail).hd.c1; have k6 := (((((((((((((((((hA).tail).tail).tail).tail).tail).tail).tail).tail).tail).tail).tail).tail).tail).tail).tail).tail).hd.c0; have k7 := (((((((((((((((((hA).tail).tail).tail).tail).tail).tail).tail).tail).tail).tail).tail).tail).tail).tail).tail).tail).hd.c1; have k8 := (((((((((((((hA).tail).tail).tail).tail).tail).tail).tail).tail).tail).tail).tail).tail).hd.c0; have k9 := (((((((((((((hA).tail).tail).tail).tail).tail).tail).tail).tail).tail).tail).tail).tail).hd.c1; have k10 := (((((((((((hA).tail).tail).tail).tail).tail).tail).tail).tail).tail).tail).hd.c0; have k11 := (((((((((((hA).tail).tail).tail).tail).tail).tail).tail).tail).tail).tail).hd.c1; have k12 := (((((((((hA).tail).tail).tail).tail).tail).tail).tail).tail).hd.c0; have k13 := (((((((((hA).tail).tail).tail).tail).tail).tail).tail).tail).hd.c1; have k14 := (((((((hA).tail).tail).tail).tail).tail).tail).hd.c0; have k15 := (((((((hA).tail).tail).tail).tail).tail).tail).hd.c1; have k16 := (((((hA).tail).tail).tail).tail).hd.c0; have k17 := (((((hA).tail).tail).tail).tail).hd.c1; have k18 := (((hA).tail).tail).hd.c0; have k19 := (((hA).tail).tail).hd.c1; have k20 := (hA).hd.c0; have k21 := (hA).hd.c1; have HA5 := hid hA; clear hA hN)
        | (go_at_call 21; refine (HC4.out _ ((((((((((HA3.out).tail).tail).tail).tail).tail).tail).tail).tail).tail).hd ((((((((HA3.out).tail).tail).tail).tail).tail).tail).tail).hd).mono ?_; rintro e wa4 ⟨rfl, hN⟩; have hA := (HA3.out).quiet hN; have k0 := (((((((((((((((((((((((((((hA).tail).tail).tail).tail).tail).tail).tail).tail).tail).tail).tail).tail).tail).tail).tail).tail).tail).tail).tail).tail).tail).tail).tail).tail).tail).tail).hd.c0; have k1 := (((((((((((((((((((((((((((hA).tail).tail).tail).tail).tail).tail).tail).tail).tail).tail).tail).tail).tail).tail).tail).tail).tail).tail).tail).tail).tail).tail).tail).tail).tail).tail).hd.c1; have k2 := (((((((((((((((((((((((((hA).tail).tail).tail).tail).tail).tail).tail).tail).tail).tail).tail).tail).tail).tail).tail).tail).tail).tail).tail).tail).tail).tail).tail).tail).hd.c0; have k3 := (((((((((((((((((((((((((hA).tail).tail).tail).tail).tail).tail).tail).tail).tail).tail).tail).tail).tail).tail).tail).tail).tail).tail).tail).tail).tail).tail).tail).tail).hd.c1; have k4 := (((((((((((((((((((hA).tail).tail).tail).tail).tail).tail).tail).tail).tail).tail).tail).tail).tail).tail).tail).tail).tail).tail).hd.c0; have k5 := (((((((((((((((((((hA).tail).tail).tail).tail).tail).tail).tail).tail).tail).tail).tail).tail).tail).tail).tail).tail).tail).tail).hd.c1; have k6 := (((((((((((((((((hA).tail).tail).tail).tail).tail).tail).tail).tail).tail).tail).tail).tail).tail).tail).tail).tail).hd.c0; have k7 := (((((((((((((((((hA).tail).tail).tail).tail).tail).tail).tail).tail).tail).tail).tail).tail).tail).tail).tail).tail).hd.c1; have k8 := (((((((((((((hA).tail).tail).tail).tail).tail).tail).tail).tail).tail).tail).tail).tail).hd.c0; have k9 := (((((((((((((hA).tail).tail).tail).tail).tail).tail).tail).tail).tail).tail).tail).tail).hd.c1; have k10 := (((((((((((hA).tail).tail).tail).tail).tail).tail).tail).tail).tail).tail).hd.c0; have k11 := (((((((((((hA).tail).tail).tail).tail).tail).tail).tail).tail).tail).tail).hd.c1; have k12 := (((((((((hA).tail).tail).tail).tail).tail).tail).tail).tail).hd.c0; have k13 := (((((((((hA).tail).tail).tail).tail).tail).tail).tail).tail).hd.c1; have k14 := (((((((hA).tail).tail).tail).tail).tail).tail).hd.c0; have k15 := (((((((hA).tail).tail).tail).tail).tail).tail).hd.c1; have k16 := (((((hA).tail).tail).tail).tail).hd.c0; have k17 := (((((hA).tail).tail).tail).tail).hd.c1; have k18 := (((hA).tail).tail).hd.c0; have k19 := (((hA).tail).tail).hd.c1; have k20 := (hA).hd.c0; have k21 := (hA).hd.c1; have HA4 := hid hA; clear hA hN)
        | (go_at_call 21; refine (HC3.out _ ((((((((((((((HA2.out).tail).tail).tail).tail).tail).tail).tail).tail).tail).tail).tail).tail).tail).hd ((((((((((((HA2.out).tail).tail).tail).tail).tail).tail).tail).tail).tail).tail).tail).hd).mono ?_; rintro e wa3 ⟨rfl, hN⟩; have hA := (HA2.out).quiet hN; have k0 := (((((((((((((((((((((((((((hA).tail).tail).tail).tail).tail).tail).tail).tail).tail).tail).tail).tail).tail).tail).tail).tail).tail).tail).tail).tail).tail).tail).tail).tail).tail).tail).hd.c0; have k1 := (((((((((((((((((((((((((((hA).tail).tail).tail).tail).tail).tail).tail).tail).tail).tail).tail).tail).tail).tail).tail).tail).tail).tail).tail).tail).tail).tail).tail).tail).tail).tail).hd.c1; have k2 := (((((((((((((((((((((((((hA).tail).tail).tail).tail).tail).tail).tail).tail).tail).tail).tail).tail).tail).tail).tail).tail).tail).tail).tail).tail).tail).tail).tail).tail).hd.c0; have k3 := (((((((((((((((((((((((((hA).tail).tail).tail).tail).tail).tail).tail).tail).tail).tail).tail).tail).tail).tail).tail).tail).tail).tail).tail).tail).tail).tail).tail).tail).hd.c1; have k4 := (((((((((((((((((((hA).tail).tail).tail).tail).tail).tail).tail).tail).tail).tail).tail).tail).tail).tail).tail).tail).tail).tail).hd.c0; have k5 := (((((((((((((((((((hA).tail).tail).tail).tail).tail).tail).tail).tail).tail).tail).tail).tail).tail).tail).tail).tail).tail).tail).hd.c1; have k6 := (((((((((((((((((hA).tail).tail).tail).tail).tail).tail).tail).tail).tail).tail).tail).tail).tail).tail).tail).tail).hd.c0; have k7 := (((((((((((((((((hA).tail).tail).tail).tail).tail).tail).tail).tail).tail).tail).tail).tail).tail).tail).tail).tail).hd.c1; have k8 := (((((((((((((hA).tail).tail).tail).tail).tail).tail).tail).tail).tail).tail).tail).tail).hd.c0; have k9 := (((((((((((((hA).tail).tail).tail).tail).tail).tail).tail).tail).tail).tail).tail).tail).hd.c1; have k10 := (((((((((((hA).tail).tail).tail).tail).tail).tail).tail).tail).tail).tail).hd.c0; have k11 := (((((((((((hA).tail).tail).tail).tail).tail).tail).tail).tail).tail).tail).hd.c1; have k12 := (((((((((hA).tail).tail).tail).tail).tail).tail).tail).tail).hd.c0; have k13 := (((((((((hA).tail).tail).tail).tail).tail).tail).tail).tail).hd.c1; have k14 := (((((((hA).tail).tail).tail).tail).tail).tail).hd.c0; have k15 := (((((((hA).tail).tail).tail).tail).tail).tail).hd.c1; have k16 := (((((hA).tail).tail).tail).tail).hd.c0; have k17 := (((((hA).tail).tail).tail).tail).hd.c1; have k18 := (((hA).tail).tail).hd.c0; have k19 := (((hA).tail).tail).hd.c1; have k20 := (hA).hd.c0; have k21 := (hA).hd.c1; have HA3 := hid hA; clear hA hN)
        | (go_at_call 21; refine (HC2.out _ ((((((((((((((((((((HA1.out).tail).tail).tail).tail).tail).tail).tail).tail).tail).tail).tail).tail).tail).tail).tail).tail).tail).tail).tail).hd ((((((((((((((((((HA1.out).tail).tail).tail).tail).tail).tail).tail).tail).tail).tail).tail).tail).tail).tail).tail).tail).tail).hd).mono ?_; rintro e wa2 ⟨rfl, hN⟩; have hA := (HA1.out).quiet hN; have k0 := (((((((((((((((((((((((((((hA).tail).tail).tail).tail).tail).tail).tail).tail).tail).tail).tail).tail).tail).tail).tail).tail).tail).tail).tail).tail).tail).tail).tail).tail).tail).tail).hd.c0; have k1 := (((((((((((((((((((((((((((hA).tail).tail).tail).tail).tail).tail).tail).tail).tail).tail).tail).tail).tail).tail).tail).tail).tail).tail).tail).tail).tail).tail).tail).tail).tail).tail).hd.c1; have k2 := (((((((((((((((((((((((((hA).tail).tail).tail).tail).tail).tail).tail).tail).tail).tail).tail).tail).tail).tail).tail).tail).tail).tail).tail).tail).tail).tail).tail).tail).hd.c0; have k3 := (((((((((((((((((((((((((hA).tail).tail).tail).tail).tail).tail).tail).tail).tail).tail).tail).tail).tail).tail).tail).tail).tail).tail).tail).tail).tail).tail).tail).tail).hd.c1; have k4 := (((((((((((((((((((hA).tail).tail).tail).tail).tail).tail).tail).tail).tail).tail).tail).tail).tail).tail).tail).tail).tail).tail).hd.c0; have k5 := (((((((((((((((((((hA).tail).tail).tail).tail).tail).tail).tail).tail).tail).tail).tail).tail).tail).tail).tail).tail).tail).tail).hd.c1; have k6 := (((((((((((((((((hA).tail).tail).tail).tail).tail).tail).tail).tail).tail).tail).tail).tail).tail).tail).tail).tail).hd.c0; have k7 := (((((((((((((((((hA).tail).tail).tail).tail).tail).tail).tail).tail).tail).tail).tail).tail).tail).tail).tail).tail).hd.c1; have k8 := (((((((((((((hA).tail).tail).tail).tail).tail).tail).tail).tail).tail).tail).tail).tail).hd.c0; have k9 := (((((((((((((hA).tail).tail).tail).tail).tail).tail).tail).tail).tail).tail).tail).tail).hd.c1; have k10 := (((((((((((hA).tail).tail).tail).tail).tail).tail).tail).tail).tail).tail).hd.c0; have k11 := (((((((((((hA).tail).tail).tail).tail).tail).tail).tail).tail).tail).tail).hd.c1; have k12 := (((((((((hA).tail).tail).tail).tail).tail).tail).tail).tail).hd.c0; have k13 := (((((((((hA).tail).tail).tail).tail).tail).tail).tail).tail).hd.c1; have k14 := (((((((hA).tail).tail).tail).tail).tail).tail).hd.c0; have k15 := (((((((hA).tail).tail).tail).tail).tail).tail).hd.c1; have k16 := (((((hA).tail).tail).tail).tail).hd.c0; have k17 := (((((hA).tail).tail).tail).tail).hd.c1; have k18 := (((hA).tail).tail).hd.c0; have k19 := (((hA).tail).tail).hd.c1; have k20 := (hA).hd.c0; have k21 := (hA).hd.c1; have HA2 := hid hA; clear hA hN)
        | (go_at_call 21; refine (HC1.out _ (((((((((((((((((((((((((((((HS15.out.drewN 1)).tail).tail).tail).tail).tail).tail).tail).tail).tail).tail).tail).tail).tail).tail).tail).tail).tail).tail).tail).tail).tail).tail).tail).tail).tail).tail).tail).hd (((((((((((((((((((((((((((HS15.out.drewN 1)).tail).tail).tail).tail).tail).tail).tail).tail).tail).tail).tail).tail).tail).tail).tail).tail).tail).tail).tail).tail).tail).tail).tail).tail).tail).hd).mono ?_; rintro e wa1 ⟨rfl, hN⟩; have hA := ((HS15.out.drewN 1)).quiet hN; have k0 := (((((((((((((((((((((((((((hA).tail).tail).tail).tail).tail).tail).tail).tail).tail).tail).tail).tail).tail).tail).tail).tail).tail).tail).tail).tail).tail).tail).tail).tail).tail).tail).hd.c0; have k1 := (((((((((((((((((((((((((((hA).tail).tail).tail).tail).tail).tail).tail).tail).tail).tail).tail).tail).tail).tail).tail).tail).tail).tail).tail).tail).tail).tail).tail).tail).tail).tail).hd.c1; have k2 := (((((((((((((((((((((((((hA).tail).tail).tail).tail).tail).tail).tail).tail).tail).tail).tail).tail).tail).tail).tail).tail).tail).tail).tail).tail).tail).tail).tail).tail).hd.c0; have k3 := (((((((((((((((((((((((((hA).tail).tail).tail).tail).tail).tail).tail).tail).tail).tail).tail).tail).tail).tail).tail).tail).tail).tail).tail).tail).tail).tail).tail).tail).hd.c1; have k4 := (((((((((((((((((((hA).tail).tail).tail).tail).tail).tail).tail).tail).tail).tail).tail).tail).tail).tail).tail).tail).tail).tail).hd.c0; have k5 := (((((((((((((((((((hA).tail).tail).tail).tail).tail).tail).tail).tail).tail).tail).tail).tail).tail).tail).tail).tail).tail).tail).hd.c1; have k6 := (((((((((((((((((hA).tail).tail).tail).tail).tail).tail).tail).tail).tail).tail).tail).tail).tail).tail).tail).tail).hd.c0; have k7 := (((((((((((((((((hA).tail).tail).tail).tail).tail).tail).tail).tail).tail).tail).tail).tail).tail).tail).tail).tail).hd.c1; have k8 := (((((((((((((hA).tail).tail).tail).tail).tail).tail).tail).tail).tail).tail).tail).tail).hd.c0; have k9 := (((((((((((((hA).tail).tail).tail).tail).tail).tail).tail).tail).tail).tail).tail).tail).hd.c1; have k10 := (((((((((((hA).tail).tail).tail).tail).tail).tail).tail).tail).tail).tail).hd.c0; have k11 := (((((((((((hA).tail).tail).tail).tail).tail).tail).tail).tail).tail).tail).hd.c1; have k12 := (((((((((hA).tail).tail).tail).tail).tail).tail).tail).tail).hd.c0; have k13 := (((((((((hA).tail).tail).tail).tail).tail).tail).tail).tail).hd.c1; have k14 := (((((((hA).tail).tail).tail).tail).tail).tail).hd.c0; have k15 := (((((((hA).tail).tail).tail).tail).tail).tail).hd.c1; have k16 := (((((hA).tail).tail).tail).tail).hd.c0; have k17 := (((((hA).tail).tail).tail).tail).hd.c1; have k18 := (((hA).tail).tail).hd.c0; have k19 := (((hA).tail).tail).hd.c1; have k20 := (hA).hd.c0; have k21 := (hA).hd.c1; have HA1 := hid hA; clear hA hN))
    cases ok with
    | false =>
      go_wp2_with fail
      go_quiet (fail)
      have hA := (HA7.out).drewN nq
      generalize World.drewN _ nq = w20 at *
      have HR20 := hid hA
      clear hA
      by_cases hlen : 0 < fc.length
      · have ql : decide ((0 : Int) < (fc.length : Int)) = true := decide_eq_true (by omega)
        cases three with
        | false =>
          have ef : five = false := by rw [← Hfive.out]; exact sus_false Hthree.out
          subst ef
          go_wp2_with fail
          go_quiet (fail)
          have hA := (HR20.out).drewN nq
          generalize World.drewN _ nq = w22 at *
          have HT := hid hA
          clear hA
          cases seven with
          | false =>
            go_wp2_with fail
            go_ret
            exact ⟨rfl, (HT.out).bel⟩
          | true =>
            obtain ⟨K, hK1, hK3, rfl⟩ : ∃ K : Nat, 1 ≤ K ∧ K ≤ 3 ∧ kk = K := ⟨kk.toNat, by have := of_decide_eq_true Hseven.out; omega, by have := of_decide_eq_true Hseven.out; omega, by have := of_decide_eq_true Hseven.out; omega⟩
            have eMN : 2 * (K : Int) = MN := HMN.out
            have eML : crossL K = ML := HML.out
            obtain ⟨hsp, hln⟩ := cross_law hK1 hK3
            rw [eMN, eML] at hsp
            rw [eML] at hln
            have HSP := hid hsp
            have m0 := (((HT.out).tail).tail).hd.c0
            have m1 := (((HT.out).tail).tail).hd.c1
            have g1 : IntKind.u64.wrap (K : Int) = K := IntWalk.u64_in _ (by omega)
            clear eMN eML hsp
            go_wp2_with fail
            refine (sIsSphereLike_c MN (.slice pm lm km) ML 2 _ ((((HT.out).tail).tail).tail).hd).mono ?_
            rw [HSP.out]
            rintro e wz ⟨rfl, hN⟩
            have hZ := (HT.out).quiet hN
            clear m0 m1
            have m0 := (((hZ).tail).tail).hd.c0
            have m1 := (((hZ).tail).tail).hd.c1
            have lenm := ((((hZ).tail).tail).tail).hd.iln tI
            have HZ := hid hZ
            have e8 : wrap64 (2 ^ K) = ((2 ^ K : Nat) : Int) := by rcases (show K = 1 ∨ K = 2 ∨ K = 3 by omega) with e | e | e <;> (subst e; decide +kernel)
            have e9 : (((2 ^ K : Nat) : Int) == ((2 ^ K : Nat) : Int)) = true := by simp
            rw [hln] at lenm
            clear hN hZ hln
            go_wp2_with fail
            go_ret
            exact ⟨rfl, HZ.out.bel⟩
        | true =>
          have hth := cone_true Hthree.out
          have HISC := hid hth.1
          have h5 : nc + 1 ≤ 6 := hth.2
          have h1 : 1 ≤ nc := hth.1.1
          have eXN : nc + 1 = XN := HXN.out
          have eXL : coneL nc fc = XL := HXL.out
          have lenc := ((((((((((((((((HR20.out).tail).tail).tail).tail).tail).tail).tail).tail).tail).tail).tail).tail).tail).tail).tail).hd.iln tI
          have g1 : IntKind.u64.wrap nc = nc := IntWalk.u64_in _ (by omega)
          have HNH : Hid (∀ w1, Rd w1 (.slice px lx kx) (ints XL) → _) := fun w1 h => sHasNoHoles_c XN (.slice px lx kx) XL 2 w1 h
          have HCP : Hid (∀ w1, Rd w1 (.slice px lx kx) (ints XL) → _) := fun w1 h => ConePoints_c XN (.slice px lx kx) XL w1 h
          obtain ⟨cq2, hcq⟩ : ∃ cq2, conB XN XL = cq2 := ⟨_, rfl⟩
          rw [hcq] at HCP
          have hno : noHB XN XL 2 = true := by rw [← eXN, ← eXL]; exact (cone_law hth.1 h5 hlen).2
          rw [hno] at HNH
          have hbit : (bits .and .i64 cq2 (wrap64 (2 ^ nc.toNat)) == 0) = false := by rw [← hcq, ← eXN, ← eXL]; exact cone_bit hth.1 h5 hlen
          clear hth hcq eXN eXL
          unfold cx at HNH HCP
          have lxC0 : ∀ n : Later w20, n.to.cell? ⟨w7.heap.size, 0, none⟩ = some (.int .i64 nc) := fun n => n.cell ((((((((((((((((HR20.out).tail).tail).tail).tail).tail).tail).tail).tail).tail).tail).tail).tail).tail).tail).hd.c0)
          have lxC1 : ∀ n : Later w20, n.to.cell? ⟨w7.heap.size, 1, none⟩ = some (.slice pc lc kc) := fun n => n.cell ((((((((((((((((HR20.out).tail).tail).tail).tail).tail).tail).tail).tail).tail).tail).tail).tail).tail).tail).hd.c1)
          have lxX0 : ∀ n : Later w20, n.to.cell? ⟨w8.heap.size, 0, none⟩ = some (.int .i64 XN) := fun n => n.cell ((((((((((((((HR20.out).tail).tail).tail).tail).tail).tail).tail).tail).tail).tail).tail).tail).hd.c0)
          have lxX1 : ∀ n : Later w20, n.to.cell? ⟨w8.heap.size, 1, none⟩ = some (.slice px lx kx) := fun n => n.cell ((((((((((((((HR20.out).tail).tail).tail).tail).tail).tail).tail).tail).tail).tail).tail).tail).hd.c1)
          go_wp2_with fail
          refine wp_region_later (by kernel_rfl) (by kernel_rfl) ?_
          repeat (go_big_quiet_step ((first | (go_at_call 62; exact later_below (HNH.out _ (((((((((((((((HR20.out).tail).tail).tail).tail).tail).tail).tail).tail).tail).tail).tail).tail).tail).hd.later _))) | (go_at_call 59; exact later_below (HCP.out _ (((((((((((((((HR20.out).tail).tail).tail).tail).tail).tail).tail).tail).tail).tail).tail).tail).tail).hd.later _))))))
          refine wpQuiet_nil ?_
          intro _ hlw
          obtain ⟨⟨w22, hb22⟩, hlw⟩ := hlw
          dsimp only at hlw
          subst hlw
          clear lxC0 lxC1 lxX0 lxX1
          have hA := (HR20.out).quiet hb22
          have HT := hid hA
          have ch0 := (((((((((((((((hA).tail).tail).tail).tail).tail).tail).tail).tail).tail).tail).tail).tail).tail).tail).hd.c0
          have ch1 := (((((((((((((((hA).tail).tail).tail).tail).tail).tail).tail).tail).tail).tail).tail).tail).tail).tail).hd.c1
          clear hA hb22
          cases five with
          | false =>
            clear ch0 ch1
            cases seven with
            | false =>
              go_wp2_with fail
              go_ret
              exact ⟨rfl, (HT.out).bel⟩
            | true =>
              obtain ⟨K, hK1, hK3, rfl⟩ : ∃ K : Nat, 1 ≤ K ∧ K ≤ 3 ∧ kk = K := ⟨kk.toNat, by have := of_decide_eq_true Hseven.out; omega, by have := of_decide_eq_true Hseven.out; omega, by have := of_decide_eq_true Hseven.out; omega⟩
              have eMN : 2 * (K : Int) = MN := HMN.out
              have eML : crossL K = ML := HML.out
              obtain ⟨hsp, hln⟩ := cross_law hK1 hK3
              rw [eMN, eML] at hsp
              rw [eML] at hln
              have HSP := hid hsp
              have m0 := (((HT.out).tail).tail).hd.c0
              have m1 := (((HT.out).tail).tail).hd.c1
              have g1 : IntKind.u64.wrap (K : Int) = K := IntWalk.u64_in _ (by omega)
              clear eMN eML hsp
              go_wp2_with fail
              refine (sIsSphereLike_c MN (.slice pm lm km) ML 2 _ ((((HT.out).tail).tail).tail).hd).mono ?_
              rw [HSP.out]
              rintro e wz ⟨rfl, hN⟩
              have hZ := (HT.out).quiet hN
              clear m0 m1
              have m0 := (((hZ).tail).tail).hd.c0
              have m1 := (((hZ).tail).tail).hd.c1
              have lenm := ((((hZ).tail).tail).tail).hd.iln tI
              have HZ := hid hZ
              have e8 : wrap64 (2 ^ K) = ((2 ^ K : Nat) : Int) := by rcases (show K = 1 ∨ K = 2 ∨ K = 3 by omega) with e | e | e <;> (subst e; decide +kernel)
              have e9 : (((2 ^ K : Nat) : Int) == ((2 ^ K : Nat) : Int)) = true := by simp
              rw [hln] at lenm
              clear hN hZ hln
              go_wp2_with fail
              go_ret
              exact ⟨rfl, HZ.out.bel⟩
          | true =>
            have h6 : nc + 2 ≤ 6 := (sus_true Hfive.out).2
            clear ch0 ch1
            have ch0 := (((((((((((((((HT.out).tail).tail).tail).tail).tail).tail).tail).tail).tail).tail).tail).tail).tail).tail).hd.c0
            have ch1 := (((((((((((((((HT.out).tail).tail).tail).tail).tail).tail).tail).tail).tail).tail).tail).tail).tail).tail).hd.c1
            obtain ⟨HL, hHL⟩ : ∃ HL, holesB nc fc 3 = HL := ⟨_, rfl⟩
            have hHH : holesB SN SLs 3 = 0 :: HL := by rw [← HSN.out, ← HSLs.out, ← hHL]; exact sus_holes HISC.out h6 hlen (by decide)
            have hl7 := holesB_len nc fc 3
            rw [hHL] at hl7
            have HHL := hid hHL
            have HHH := hid hHH
            clear hHL hHH
            go_wp2_with fail
            refine (sHolesMod_c nc (.slice pc lc kc) fc 3 _ ((((((((((((((((HT.out).tail).tail).tail).tail).tail).tail).tail).tail).tail).tail).tail).tail).tail).tail).tail).hd).mono ?_
            rw [HHL.out]
            rintro e wl ⟨vl, rfl, hN⟩
            have hL := (HT.out).call1 hN
            have s0 := ((((((((((hL).tail).tail).tail).tail).tail).tail).tail).tail).tail).hd.c0
            have s1 := ((((((((((hL).tail).tail).tail).tail).tail).tail).tail).tail).tail).hd.c1
            have HLW := hid hL
            clear hN hL ch0 ch1
            go_wp2_with fail
            refine (sHolesMod_c SN (.slice ps ls ks) SLs 3 _ (((((((((((HLW.out).tail).tail).tail).tail).tail).tail).tail).tail).tail).tail).hd).mono ?_
            rw [HHH.out]
            rintro e wh ⟨vh, rfl, hN⟩
            have hH := HLW.out.call1 hN
            have lh := (hH).hd.iln tI
            have ll := ((hH).tail).hd.iln tI
            have i0 : ∀ w' : World, (Instr.indexAt 26 _ (.int .i64 0)).run Try.prog w' = .ok (.pointer (some (adr _ 0))) w' := (hH).hd.iix tI 0 (by simp)
            have i1 := (hH).hd.intCell 0 (by simp)
            have i2 : gi (0 :: HL) 0 = 0 := rfl
            rw [i2] at i1
            have i3 : ∀ w' : World, (Instr.sliceAt 26 vh (some (.int .i64 1)) none none).run Try.prog w' = .ok (fromTo vh 1) w' := (hH).hd.runFrom tI 1 (by simp)
            have hv := (hH).hd.ifromTo (l := 1) (by simp)
            have i4 : (0 :: HL).drop 1 = HL := rfl
            rw [i4] at hv
            have HV := hid hv
            have i5 : ((0 :: HL).length : Int) = (HL.length : Int) + 1 := by simp
            rw [i5] at lh
            have e3 : IntKind.i64.wrap ((HL.length : Int) + 1) = (HL.length : Int) + 1 := IntWalk.i64_in _ (by omega)
            have e4 : (((HL.length : Int) + 1) != ((HL.length : Int) + 1)) = false := by simp
            have HH := hid hH
            clear hN hH hv i2 i4 i5 s0 s1
            go_wp2_with fail
            refine (same_c _ _ HL _ HV.out ((HH.out).tail).hd).mono ?_
            rintro e wy ⟨rfl, qy, hq⟩
            have hN := HH.out.drewN qy
            rw [← hq] at hN
            have HY := hid hN
            clear hN hq i0 i1 i3
            cases seven with
            | false =>
              go_wp2_with fail
              go_ret
              exact ⟨rfl, (HY.out).bel⟩
            | true =>
              obtain ⟨K, hK1, hK3, rfl⟩ : ∃ K : Nat, 1 ≤ K ∧ K ≤ 3 ∧ kk = K := ⟨kk.toNat, by have := of_decide_eq_true Hseven.out; omega, by have := of_decide_eq_true Hseven.out; omega, by have := of_decide_eq_true Hseven.out; omega⟩
              have eMN : 2 * (K : Int) = MN := HMN.out
              have eML : crossL K = ML := HML.out
              obtain ⟨hsp, hln⟩ := cross_law hK1 hK3
              rw [eMN, eML] at hsp
              rw [eML] at hln
              have HSP := hid hsp
              have m0 := (((((HY.out).tail).tail).tail).tail).hd.c0
              have m1 := (((((HY.out).tail).tail).tail).tail).hd.c1
              have g1 : IntKind.u64.wrap (K : Int) = K := IntWalk.u64_in _ (by omega)
              clear eMN eML hsp
              go_wp2_with fail
              refine (sIsSphereLike_c MN (.slice pm lm km) ML 2 _ ((((((HY.out).tail).tail).tail).tail).tail).hd).mono ?_
              rw [HSP.out]
              rintro e wz ⟨rfl, hN⟩
              have hZ := (HY.out).quiet hN
              clear m0 m1
              have m0 := (((((hZ).tail).tail).tail).tail).hd.c0
              have m1 := (((((hZ).tail).tail).tail).tail).hd.c1
              have lenm := ((((((hZ).tail).tail).tail).tail).tail).hd.iln tI
              have HZ := hid hZ
              have e8 : wrap64 (2 ^ K) = ((2 ^ K : Nat) : Int) := by rcases (show K = 1 ∨ K = 2 ∨ K = 3 by omega) with e | e | e <;> (subst e; decide +kernel)
              have e9 : (((2 ^ K : Nat) : Int) == ((2 ^ K : Nat) : Int)) = true := by simp
              rw [hln] at lenm
              clear hN hZ hln
              go_wp2_with fail
              go_ret
              exact ⟨rfl, HZ.out.bel⟩
      · have ql : decide ((0 : Int) < (fc.length : Int)) = false := decide_eq_false (by omega)
        cases three with
        | false =>
          have ef : five = false := by rw [← Hfive.out]; exact sus_false Hthree.out
          subst ef
          go_wp2_with fail
          go_quiet (fail)
          have hA := (HR20.out).drewN nq
          generalize World.drewN _ nq = w22 at *
          have HT := hid hA
          clear hA
          cases seven with
          | false =>
            go_wp2_with fail
            go_ret
            exact ⟨rfl, (HT.out).bel⟩
          | true =>
            obtain ⟨K, hK1, hK3, rfl⟩ : ∃ K : Nat, 1 ≤ K ∧ K ≤ 3 ∧ kk = K := ⟨kk.toNat, by have := of_decide_eq_true Hseven.out; omega, by have := of_decide_eq_true Hseven.out; omega, by have := of_decide_eq_true Hseven.out; omega⟩
            have eMN : 2 * (K : Int) = MN := HMN.out
            have eML : crossL K = ML := HML.out
            obtain ⟨hsp, hln⟩ := cross_law hK1 hK3
            rw [eMN, eML] at hsp
            rw [eML] at hln
            have HSP := hid hsp
            have m0 := (((HT.out).tail).tail).hd.c0
            have m1 := (((HT.out).tail).tail).hd.c1
            have g1 : IntKind.u64.wrap (K : Int) = K := IntWalk.u64_in _ (by omega)
            clear eMN eML hsp
            go_wp2_with fail
            refine (sIsSphereLike_c MN (.slice pm lm km) ML 2 _ ((((HT.out).tail).tail).tail).hd).mono ?_
            rw [HSP.out]
            rintro e wz ⟨rfl, hN⟩
            have hZ := (HT.out).quiet hN
            clear m0 m1
            have m0 := (((hZ).tail).tail).hd.c0
            have m1 := (((hZ).tail).tail).hd.c1
            have lenm := ((((hZ).tail).tail).tail).hd.iln tI
            have HZ := hid hZ
            have e8 : wrap64 (2 ^ K) = ((2 ^ K : Nat) : Int) := by rcases (show K = 1 ∨ K = 2 ∨ K = 3 by omega) with e | e | e <;> (subst e; decide +kernel)
            have e9 : (((2 ^ K : Nat) : Int) == ((2 ^ K : Nat) : Int)) = true := by simp
            rw [hln] at lenm
            clear hN hZ hln
            go_wp2_with fail
            go_ret
            exact ⟨rfl, HZ.out.bel⟩
        | true =>
          have hth := cone_true Hthree.out
          have HISC := hid hth.1
          have h5 : nc + 1 ≤ 6 := hth.2
          have h1 : 1 ≤ nc := hth.1.1
          have eXN : nc + 1 = XN := HXN.out
          have eXL : coneL nc fc = XL := HXL.out
          have lenc := ((((((((((((((((HR20.out).tail).tail).tail).tail).tail).tail).tail).tail).tail).tail).tail).tail).tail).tail).tail).hd.iln tI
          have g1 : IntKind.u64.wrap nc = nc := IntWalk.u64_in _ (by omega)
          have HNH : Hid (∀ w1, Rd w1 (.slice px lx kx) (ints XL) → _) := fun w1 h => sHasNoHoles_c XN (.slice px lx kx) XL 2 w1 h
          have HCP : Hid (∀ w1, Rd w1 (.slice px lx kx) (ints XL) → _) := fun w1 h => ConePoints_c XN (.slice px lx kx) XL w1 h
          obtain ⟨cq2, hcq⟩ : ∃ cq2, conB XN XL = cq2 := ⟨_, rfl⟩
          rw [hcq] at HCP
          have hz : cq2 = 0 := by rw [← hcq, ← eXN, ← eXL]; exact cone_zero (by omega)
          subst hz
          have hbit := and_zero (n := nc) (by omega) (by omega)
          clear hth hcq eXN eXL
          unfold cx at HNH HCP
          have lxC0 : ∀ n : Later w20, n.to.cell? ⟨w7.heap.size, 0, none⟩ = some (.int .i64 nc) := fun n => n.cell ((((((((((((((((HR20.out).tail).tail).tail).tail).tail).tail).tail).tail).tail).tail).tail).tail).tail).tail).hd.c0)
          have lxC1 : ∀ n : Later w20, n.to.cell? ⟨w7.heap.size, 1, none⟩ = some (.slice pc lc kc) := fun n => n.cell ((((((((((((((((HR20.out).tail).tail).tail).tail).tail).tail).tail).tail).tail).tail).tail).tail).tail).tail).hd.c1)
          have lxX0 : ∀ n : Later w20, n.to.cell? ⟨w8.heap.size, 0, none⟩ = some (.int .i64 XN) := fun n => n.cell ((((((((((((((HR20.out).tail).tail).tail).tail).tail).tail).tail).tail).tail).tail).tail).tail).hd.c0)
          have lxX1 : ∀ n : Later w20, n.to.cell? ⟨w8.heap.size, 1, none⟩ = some (.slice px lx kx) := fun n => n.cell ((((((((((((((HR20.out).tail).tail).tail).tail).tail).tail).tail).tail).tail).tail).tail).tail).hd.c1)
          go_wp2_with fail
          refine wp_region_later (by kernel_rfl) (by kernel_rfl) ?_
          repeat (go_big_quiet_step ((first | (go_at_call 62; exact later_below (HNH.out _ (((((((((((((((HR20.out).tail).tail).tail).tail).tail).tail).tail).tail).tail).tail).tail).tail).tail).hd.later _))) | (go_at_call 59; exact later_below (HCP.out _ (((((((((((((((HR20.out).tail).tail).tail).tail).tail).tail).tail).tail).tail).tail).tail).tail).tail).hd.later _))))))
          refine wpQuiet_nil ?_
          intro _ hlw
          obtain ⟨⟨w22, hb22⟩, hlw⟩ := hlw
          dsimp only at hlw
          subst hlw
          clear lxC0 lxC1 lxX0 lxX1
          have hA := (HR20.out).quiet hb22
          have HT := hid hA
          have ch0 := (((((((((((((((hA).tail).tail).tail).tail).tail).tail).tail).tail).tail).tail).tail).tail).tail).tail).hd.c0
          have ch1 := (((((((((((((((hA).tail).tail).tail).tail).tail).tail).tail).tail).tail).tail).tail).tail).tail).tail).hd.c1
          clear hA hb22
          cases five with
          | false =>
            clear ch0 ch1
            cases seven with
            | false =>
              go_wp2_with fail
              go_ret
              exact ⟨rfl, (HT.out).bel⟩
            | true =>
              obtain ⟨K, hK1, hK3, rfl⟩ : ∃ K : Nat, 1 ≤ K ∧ K ≤ 3 ∧ kk = K := ⟨kk.toNat, by have := of_decide_eq_true Hseven.out; omega, by have := of_decide_eq_true Hseven.out; omega, by have := of_decide_eq_true Hseven.out; omega⟩
              have eMN : 2 * (K : Int) = MN := HMN.out
              have eML : crossL K = ML := HML.out
              obtain ⟨hsp, hln⟩ := cross_law hK1 hK3
              rw [eMN, eML] at hsp
              rw [eML] at hln
              have HSP := hid hsp
              have m0 := (((HT.out).tail).tail).hd.c0
              have m1 := (((HT.out).tail).tail).hd.c1
              have g1 : IntKind.u64.wrap (K : Int) = K := IntWalk.u64_in _ (by omega)
              clear eMN eML hsp
              go_wp2_with fail
              refine (sIsSphereLike_c MN (.slice pm lm km) ML 2 _ ((((HT.out).tail).tail).tail).hd).mono ?_
              rw [HSP.out]
              rintro e wz ⟨rfl, hN⟩
              have hZ := (HT.out).quiet hN
              clear m0 m1
              have m0 := (((hZ).tail).tail).hd.c0
              have m1 := (((hZ).tail).tail).hd.c1
              have lenm := ((((hZ).tail).tail).tail).hd.iln tI
              have HZ := hid hZ
              have e8 : wrap64 (2 ^ K) = ((2 ^ K : Nat) : Int) := by rcases (show K = 1 ∨ K = 2 ∨ K = 3 by omega) with e | e | e <;> (subst e; decide +kernel)
              have e9 : (((2 ^ K : Nat) : Int) == ((2 ^ K : Nat) : Int)) = true := by simp
              rw [hln] at lenm
              clear hN hZ hln
              go_wp2_with fail
              go_ret
              exact ⟨rfl, HZ.out.bel⟩
          | true =>
            have h6 : nc + 2 ≤ 6 := (sus_true Hfive.out).2
            cases seven with
            | false =>
              go_wp2_with fail
              go_ret
              exact ⟨rfl, (HT.out).bel⟩
            | true =>
              obtain ⟨K, hK1, hK3, rfl⟩ : ∃ K : Nat, 1 ≤ K ∧ K ≤ 3 ∧ kk = K := ⟨kk.toNat, by have := of_decide_eq_true Hseven.out; omega, by have := of_decide_eq_true Hseven.out; omega, by have := of_decide_eq_true Hseven.out; omega⟩
              have eMN : 2 * (K : Int) = MN := HMN.out
              have eML : crossL K = ML := HML.out
              obtain ⟨hsp, hln⟩ := cross_law hK1 hK3
              rw [eMN, eML] at hsp
              rw [eML] at hln
              have HSP := hid hsp
              have m0 := (((HT.out).tail).tail).hd.c0
              have m1 := (((HT.out).tail).tail).hd.c1
              have g1 : IntKind.u64.wrap (K : Int) = K := IntWalk.u64_in _ (by omega)
              clear eMN eML hsp
              go_wp2_with fail
              refine (sIsSphereLike_c MN (.slice pm lm km) ML 2 _ ((((HT.out).tail).tail).tail).hd).mono ?_
              rw [HSP.out]
              rintro e wz ⟨rfl, hN⟩
              have hZ := (HT.out).quiet hN
              clear m0 m1
              have m0 := (((hZ).tail).tail).hd.c0
              have m1 := (((hZ).tail).tail).hd.c1
              have lenm := ((((hZ).tail).tail).tail).hd.iln tI
              have HZ := hid hZ
              have e8 : wrap64 (2 ^ K) = ((2 ^ K : Nat) : Int) := by rcases (show K = 1 ∨ K = 2 ∨ K = 3 by omega) with e | e | e <;> (subst e; decide +kernel)
              have e9 : (((2 ^ K : Nat) : Int) == ((2 ^ K : Nat) : Int)) = true := by simp
              rw [hln] at lenm
              clear hN hZ hln
              go_wp2_with fail
              go_ret
              exact ⟨rfl, HZ.out.bel⟩
    | true =>
      have hfit := fitB_iff.1 Hok.out
      have hcnt : (facesB JN JL).length = (facesB na fa).length * (facesB nb fb).length := by have e1 : na + nb = JN := HJN.out; have e2 : joinL na fa fb = JL := HJL.out; rw [← e1, ← e2]; exact join_faces hfit.1 hfit.2.1 hfit.2.2
      have HFj : Hid (∀ w1, Rd w1 (.slice pj lj kj) (ints JL) → _) := fun w1 h => sFacesOf_c JN (.slice pj lj kj) JL w1 h
      have hlj := facesB_len JN JL
      obtain ⟨Fj, hFj⟩ : ∃ F, facesB JN JL = F := ⟨_, rfl⟩
      rw [hFj] at HFj hlj hcnt
      clear hFj
      have HFa : Hid (∀ w1, Rd w1 (.slice pa la ka) (ints fa) → _) := fun w1 h => sFacesOf_c na (.slice pa la ka) fa w1 h
      have hla := facesB_len na fa
      obtain ⟨Fa, hFa⟩ : ∃ F, facesB na fa = F := ⟨_, rfl⟩
      rw [hFa] at HFa hla hcnt
      clear hFa
      have HFb : Hid (∀ w1, Rd w1 (.slice pb lb kb) (ints fb) → _) := fun w1 h => sFacesOf_c nb (.slice pb lb kb) fb w1 h
      have hlb := facesB_len nb fb
      obtain ⟨Fb, hFb⟩ : ∃ F, facesB nb fb = F := ⟨_, rfl⟩
      rw [hFb] at HFb hlb hcnt
      clear hFb
      have hmul : ((Fa.length : Int) * (Fb.length : Int)) = (Fj.length : Int) := by rw [hcnt]; simp
      have e1 : IntKind.i64.wrap ((Fa.length : Int) * (Fb.length : Int)) = (Fj.length : Int) := by rw [hmul]; exact IntWalk.i64_in _ (by omega)
      have q1 : ((Fj.length : Int) != (Fj.length : Int)) = false := by simp
      clear hcnt hmul hfit
      unfold cx at HFj HFa HFb
      have d0 := (((((((((((((((((((((((((((HA7.out).tail).tail).tail).tail).tail).tail).tail).tail).tail).tail).tail).tail).tail).tail).tail).tail).tail).tail).tail).tail).tail).tail).tail).tail).tail).tail).hd.c0
      have d1 := (((((((((((((((((((((((((((HA7.out).tail).tail).tail).tail).tail).tail).tail).tail).tail).tail).tail).tail).tail).tail).tail).tail).tail).tail).tail).tail).tail).tail).tail).tail).tail).tail).hd.c1
      have d2 := ((((((((((((((((((((((((((((((HA7.out).tail).tail).tail).tail).tail).tail).tail).tail).tail).tail).tail).tail).tail).tail).tail).tail).tail).tail).tail).tail).tail).tail).tail).tail).tail).tail).tail).tail).tail).hd.c0
      have d3 := ((((((((((((((((((((((((((((((HA7.out).tail).tail).tail).tail).tail).tail).tail).tail).tail).tail).tail).tail).tail).tail).tail).tail).tail).tail).tail).tail).tail).tail).tail).tail).tail).tail).tail).tail).tail).hd.c1
      have d4 := (((((((((((((((((((((((((((((HA7.out).tail).tail).tail).tail).tail).tail).tail).tail).tail).tail).tail).tail).tail).tail).tail).tail).tail).tail).tail).tail).tail).tail).tail).tail).tail).tail).tail).tail).hd.c0
      have d5 := (((((((((((((((((((((((((((((HA7.out).tail).tail).tail).tail).tail).tail).tail).tail).tail).tail).tail).tail).tail).tail).tail).tail).tail).tail).tail).tail).tail).tail).tail).tail).tail).tail).tail).tail).hd.c1
      go_wp2_with fail
      go_region_held3 (fun w' => w'.cell? ⟨w2.heap.size, 0, none⟩ = some (.int .i64 (JN)) ∧ w'.cell? ⟨w2.heap.size, 1, none⟩ = some (.slice pj lj kj) ∧ w'.cell? ⟨w1.heap.size, 0, none⟩ = some (.int .i64 (na)) ∧ w'.cell? ⟨w1.heap.size, 1, none⟩ = some (.slice pa la ka) ∧ w'.cell? ⟨w1.heap.size + 1, 0, none⟩ = some (.int .i64 (nb)) ∧ w'.cell? ⟨w1.heap.size + 1, 1, none⟩ = some (.slice pb lb kb)) (first | go_keep | exact ⟨t0, t1, t2, t3, t4, t5⟩ | exact ⟨d0, d1, d2, d3, d4, d5⟩)
        (first
          | (go_at_call 61; refine (HFb.out _ (((((((((((((((((((((((((((((((((HFa2.out).tail).tail).tail).tail).tail).tail).tail).tail).tail).tail).tail).tail).tail).tail).tail).tail).tail).tail).tail).tail).tail).tail).tail).tail).tail).tail).tail).tail).tail).tail).tail).tail).hd).mono ?_; rintro e wfb ⟨vfb, rfl, hN⟩; have hA := (HFa2.out).call1 hN; have lfb := hA.hd.iln tI; have t0 := ((((((((((((((((((((((((((((((hA).tail).tail).tail).tail).tail).tail).tail).tail).tail).tail).tail).tail).tail).tail).tail).tail).tail).tail).tail).tail).tail).tail).tail).tail).tail).tail).tail).tail).tail).hd.c0; have t1 := ((((((((((((((((((((((((((((((hA).tail).tail).tail).tail).tail).tail).tail).tail).tail).tail).tail).tail).tail).tail).tail).tail).tail).tail).tail).tail).tail).tail).tail).tail).tail).tail).tail).tail).tail).hd.c1; have t2 := (((((((((((((((((((((((((((((((((hA).tail).tail).tail).tail).tail).tail).tail).tail).tail).tail).tail).tail).tail).tail).tail).tail).tail).tail).tail).tail).tail).tail).tail).tail).tail).tail).tail).tail).tail).tail).tail).tail).hd.c0; have t3 := (((((((((((((((((((((((((((((((((hA).tail).tail).tail).tail).tail).tail).tail).tail).tail).tail).tail).tail).tail).tail).tail).tail).tail).tail).tail).tail).tail).tail).tail).tail).tail).tail).tail).tail).tail).tail).tail).tail).hd.c1; have t4 := ((((((((((((((((((((((((((((((((hA).tail).tail).tail).tail).tail).tail).tail).tail).tail).tail).tail).tail).tail).tail).tail).tail).tail).tail).tail).tail).tail).tail).tail).tail).tail).tail).tail).tail).tail).tail).tail).hd.c0; have t5 := ((((((((((((((((((((((((((((((((hA).tail).tail).tail).tail).tail).tail).tail).tail).tail).tail).tail).tail).tail).tail).tail).tail).tail).tail).tail).tail).tail).tail).tail).tail).tail).tail).tail).tail).tail).tail).tail).hd.c1; have HFb2 := hid hA; clear hA hN)
          | (go_at_call 61; refine (HFa.out _ (((((((((((((((((((((((((((((((((HFj2.out).tail).tail).tail).tail).tail).tail).tail).tail).tail).tail).tail).tail).tail).tail).tail).tail).tail).tail).tail).tail).tail).tail).tail).tail).tail).tail).tail).tail).tail).tail).tail).tail).hd).mono ?_; rintro e wfa ⟨vfa, rfl, hN⟩; have hA := (HFj2.out).call1 hN; have lfa := hA.hd.iln tI; have t0 := (((((((((((((((((((((((((((((hA).tail).tail).tail).tail).tail).tail).tail).tail).tail).tail).tail).tail).tail).tail).tail).tail).tail).tail).tail).tail).tail).tail).tail).tail).tail).tail).tail).tail).hd.c0; have t1 := (((((((((((((((((((((((((((((hA).tail).tail).tail).tail).tail).tail).tail).tail).tail).tail).tail).tail).tail).tail).tail).tail).tail).tail).tail).tail).tail).tail).tail).tail).tail).tail).tail).tail).hd.c1; have t2 := ((((((((((((((((((((((((((((((((hA).tail).tail).tail).tail).tail).tail).tail).tail).tail).tail).tail).tail).tail).tail).tail).tail).tail).tail).tail).tail).tail).tail).tail).tail).tail).tail).tail).tail).tail).tail).tail).hd.c0; have t3 := ((((((((((((((((((((((((((((((((hA).tail).tail).tail).tail).tail).tail).tail).tail).tail).tail).tail).tail).tail).tail).tail).tail).tail).tail).tail).tail).tail).tail).tail).tail).tail).tail).tail).tail).tail).tail).tail).hd.c1; have t4 := (((((((((((((((((((((((((((((((hA).tail).tail).tail).tail).tail).tail).tail).tail).tail).tail).tail).tail).tail).tail).tail).tail).tail).tail).tail).tail).tail).tail).tail).tail).tail).tail).tail).tail).tail).tail).hd.c0; have t5 := (((((((((((((((((((((((((((((((hA).tail).tail).tail).tail).tail).tail).tail).tail).tail).tail).tail).tail).tail).tail).tail).tail).tail).tail).tail).tail).tail).tail).tail).tail).tail).tail).tail).tail).tail).tail).hd.c1; have HFa2 := hid hA; clear hA hN)
          | (go_at_call 61; refine (HFj.out _ (((((((((((((((((((((((((((((HA7.out.drewN 1)).tail).tail).tail).tail).tail).tail).tail).tail).tail).tail).tail).tail).tail).tail).tail).tail).tail).tail).tail).tail).tail).tail).tail).tail).tail).tail).tail).hd).mono ?_; rintro e wfj ⟨vfj, rfl, hN⟩; have hA := ((HA7.out.drewN 1)).call1 hN; have lfj := hA.hd.iln tI; have t0 := ((((((((((((((((((((((((((((hA).tail).tail).tail).tail).tail).tail).tail).tail).tail).tail).tail).tail).tail).tail).tail).tail).tail).tail).tail).tail).tail).tail).tail).tail).tail).tail).tail).hd.c0; have t1 := ((((((((((((((((((((((((((((hA).tail).tail).tail).tail).tail).tail).tail).tail).tail).tail).tail).tail).tail).tail).tail).tail).tail).tail).tail).tail).tail).tail).tail).tail).tail).tail).tail).hd.c1; have t2 := (((((((((((((((((((((((((((((((hA).tail).tail).tail).tail).tail).tail).tail).tail).tail).tail).tail).tail).tail).tail).tail).tail).tail).tail).tail).tail).tail).tail).tail).tail).tail).tail).tail).tail).tail).tail).hd.c0; have t3 := (((((((((((((((((((((((((((((((hA).tail).tail).tail).tail).tail).tail).tail).tail).tail).tail).tail).tail).tail).tail).tail).tail).tail).tail).tail).tail).tail).tail).tail).tail).tail).tail).tail).tail).tail).tail).hd.c1; have t4 := ((((((((((((((((((((((((((((((hA).tail).tail).tail).tail).tail).tail).tail).tail).tail).tail).tail).tail).tail).tail).tail).tail).tail).tail).tail).tail).tail).tail).tail).tail).tail).tail).tail).tail).tail).hd.c0; have t5 := ((((((((((((((((((((((((((((((hA).tail).tail).tail).tail).tail).tail).tail).tail).tail).tail).tail).tail).tail).tail).tail).tail).tail).tail).tail).tail).tail).tail).tail).tail).tail).tail).tail).tail).tail).hd.c1; have HFj2 := hid hA; clear hA hN))
      by_cases hlen : 0 < fc.length
      · have ql : decide ((0 : Int) < (fc.length : Int)) = true := decide_eq_true (by omega)
        cases three with
        | false =>
          have ef : five = false := by rw [← Hfive.out]; exact sus_false Hthree.out
          subst ef
          go_wp2_with fail
          go_quiet (fail)
          have hA := (HFb2.out).drewN nq
          generalize World.drewN _ nq = w22 at *
          have HT := hid hA
          clear hA
          cases seven with
          | false =>
            go_wp2_with fail
            go_ret
            exact ⟨rfl, (HT.out).bel⟩
          | true =>
            obtain ⟨K, hK1, hK3, rfl⟩ : ∃ K : Nat, 1 ≤ K ∧ K ≤ 3 ∧ kk = K := ⟨kk.toNat, by have := of_decide_eq_true Hseven.out; omega, by have := of_decide_eq_true Hseven.out; omega, by have := of_decide_eq_true Hseven.out; omega⟩
            have eMN : 2 * (K : Int) = MN := HMN.out
            have eML : crossL K = ML := HML.out
            obtain ⟨hsp, hln⟩ := cross_law hK1 hK3
            rw [eMN, eML] at hsp
            rw [eML] at hln
            have HSP := hid hsp
            have m0 := ((((((HT.out).tail).tail).tail).tail).tail).hd.c0
            have m1 := ((((((HT.out).tail).tail).tail).tail).tail).hd.c1
            have g1 : IntKind.u64.wrap (K : Int) = K := IntWalk.u64_in _ (by omega)
            clear eMN eML hsp
            go_wp2_with fail
            refine (sIsSphereLike_c MN (.slice pm lm km) ML 2 _ (((((((HT.out).tail).tail).tail).tail).tail).tail).hd).mono ?_
            rw [HSP.out]
            rintro e wz ⟨rfl, hN⟩
            have hZ := (HT.out).quiet hN
            clear m0 m1
            have m0 := ((((((hZ).tail).tail).tail).tail).tail).hd.c0
            have m1 := ((((((hZ).tail).tail).tail).tail).tail).hd.c1
            have lenm := (((((((hZ).tail).tail).tail).tail).tail).tail).hd.iln tI
            have HZ := hid hZ
            have e8 : wrap64 (2 ^ K) = ((2 ^ K : Nat) : Int) := by rcases (show K = 1 ∨ K = 2 ∨ K = 3 by omega) with e | e | e <;> (subst e; decide +kernel)
            have e9 : (((2 ^ K : Nat) : Int) == ((2 ^ K : Nat) : Int)) = true := by simp
            rw [hln] at lenm
            clear hN hZ hln
            go_wp2_with fail
            go_ret
            exact ⟨rfl, HZ.out.bel⟩
        | true =>
          have hth := cone_true Hthree.out
          have HISC := hid hth.1
          have h5 : nc + 1 ≤ 6 := hth.2
          have h1 : 1 ≤ nc := hth.1.1
          have eXN : nc + 1 = XN := HXN.out
          have eXL : coneL nc fc = XL := HXL.out
          have lenc := (((((((((((((((((((HFb2.out).tail).tail).tail).tail).tail).tail).tail).tail).tail).tail).tail).tail).tail).tail).tail).tail).tail).tail).hd.iln tI
          have g1 : IntKind.u64.wrap nc = nc := IntWalk.u64_in _ (by omega)
          have HNH : Hid (∀ w1, Rd w1 (.slice px lx kx) (ints XL) → _) := fun w1 h => sHasNoHoles_c XN (.slice px lx kx) XL 2 w1 h
          have HCP : Hid (∀ w1, Rd w1 (.slice px lx kx) (ints XL) → _) := fun w1 h => ConePoints_c XN (.slice px lx kx) XL w1 h
          obtain ⟨cq2, hcq⟩ : ∃ cq2, conB XN XL = cq2 := ⟨_, rfl⟩
          rw [hcq] at HCP
          have hno : noHB XN XL 2 = true := by rw [← eXN, ← eXL]; exact (cone_law hth.1 h5 hlen).2
          rw [hno] at HNH
          have hbit : (bits .and .i64 cq2 (wrap64 (2 ^ nc.toNat)) == 0) = false := by rw [← hcq, ← eXN, ← eXL]; exact cone_bit hth.1 h5 hlen
          clear hth hcq eXN eXL
          unfold cx at HNH HCP
          have lxC0 : ∀ n : Later wfb, n.to.cell? ⟨w7.heap.size, 0, none⟩ = some (.int .i64 nc) := fun n => n.cell (((((((((((((((((((HFb2.out).tail).tail).tail).tail).tail).tail).tail).tail).tail).tail).tail).tail).tail).tail).tail).tail).tail).hd.c0)
          have lxC1 : ∀ n : Later wfb, n.to.cell? ⟨w7.heap.size, 1, none⟩ = some (.slice pc lc kc) := fun n => n.cell (((((((((((((((((((HFb2.out).tail).tail).tail).tail).tail).tail).tail).tail).tail).tail).tail).tail).tail).tail).tail).tail).tail).hd.c1)
          have lxX0 : ∀ n : Later wfb, n.to.cell? ⟨w8.heap.size, 0, none⟩ = some (.int .i64 XN) := fun n => n.cell (((((((((((((((((HFb2.out).tail).tail).tail).tail).tail).tail).tail).tail).tail).tail).tail).tail).tail).tail).tail).hd.c0)
          have lxX1 : ∀ n : Later wfb, n.to.cell? ⟨w8.heap.size, 1, none⟩ = some (.slice px lx kx) := fun n => n.cell (((((((((((((((((HFb2.out).tail).tail).tail).tail).tail).tail).tail).tail).tail).tail).tail).tail).tail).tail).tail).hd.c1)
          go_wp2_with fail
          refine wp_region_later (by kernel_rfl) (by kernel_rfl) ?_
          repeat (go_big_quiet_step ((first | (go_at_call 62; exact later_below (HNH.out _ ((((((((((((((((((HFb2.out).tail).tail).tail).tail).tail).tail).tail).tail).tail).tail).tail).tail).tail).tail).tail).tail).hd.later _))) | (go_at_call 59; exact later_below (HCP.out _ ((((((((((((((((((HFb2.out).tail).tail).tail).tail).tail).tail).tail).tail).tail).tail).tail).tail).tail).tail).tail).tail).hd.later _))))))
          refine wpQuiet_nil ?_
          intro _ hlw
          obtain ⟨⟨w22, hb22⟩, hlw⟩ := hlw
          dsimp only at hlw
          subst hlw
          clear lxC0 lxC1 lxX0 lxX1
          have hA := (HFb2.out).quiet hb22
          have HT := hid hA
          have ch0 := ((((((((((((((((((hA).tail).tail).tail).tail).tail).tail).tail).tail).tail).tail).tail).tail).tail).tail).tail).tail).tail).hd.c0
          have ch1 := ((((((((((((((((((hA).tail).tail).tail).tail).tail).tail).tail).tail).tail).tail).tail).tail).tail).tail).tail).tail).tail).hd.c1
          clear hA hb22
          cases five with
          | false =>
            clear ch0 ch1
            cases seven with
            | false =>
              go_wp2_with fail
              go_ret
              exact ⟨rfl, (HT.out).bel⟩
            | true =>
              obtain ⟨K, hK1, hK3, rfl⟩ : ∃ K : Nat, 1 ≤ K ∧ K ≤ 3 ∧ kk = K := ⟨kk.toNat, by have := of_decide_eq_true Hseven.out; omega, by have := of_decide_eq_true Hseven.out; omega, by have := of_decide_eq_true Hseven.out; omega⟩
              have eMN : 2 * (K : Int) = MN := HMN.out
              have eML : crossL K = ML := HML.out
              obtain ⟨hsp, hln⟩ := cross_law hK1 hK3
              rw [eMN, eML] at hsp
              rw [eML] at hln
              have HSP := hid hsp
              have m0 := ((((((HT.out).tail).tail).tail).tail).tail).hd.c0
              have m1 := ((((((HT.out).tail).tail).tail).tail).tail).hd.c1
              have g1 : IntKind.u64.wrap (K : Int) = K := IntWalk.u64_in _ (by omega)
              clear eMN eML hsp
              go_wp2_with fail
              refine (sIsSphereLike_c MN (.slice pm lm km) ML 2 _ (((((((HT.out).tail).tail).tail).tail).tail).tail).hd).mono ?_
              rw [HSP.out]
              rintro e wz ⟨rfl, hN⟩
              have hZ := (HT.out).quiet hN
              clear m0 m1
              have m0 := ((((((hZ).tail).tail).tail).tail).tail).hd.c0
              have m1 := ((((((hZ).tail).tail).tail).tail).tail).hd.c1
              have lenm := (((((((hZ).tail).tail).tail).tail).tail).tail).hd.iln tI
              have HZ := hid hZ
              have e8 : wrap64 (2 ^ K) = ((2 ^ K : Nat) : Int) := by rcases (show K = 1 ∨ K = 2 ∨ K = 3 by omega) with e | e | e <;> (subst e; decide +kernel)
              have e9 : (((2 ^ K : Nat) : Int) == ((2 ^ K : Nat) : Int)) = true := by simp
              rw [hln] at lenm
              clear hN hZ hln
              go_wp2_with fail
              go_ret
              exact ⟨rfl, HZ.out.bel⟩
          | true =>
            have h6 : nc + 2 ≤ 6 := (sus_true Hfive.out).2
            clear ch0 ch1
            have ch0 := ((((((((((((((((((HT.out).tail).tail).tail).tail).tail).tail).tail).tail).tail).tail).tail).tail).tail).tail).tail).tail).tail).hd.c0
            have ch1 := ((((((((((((((((((HT.out).tail).tail).tail).tail).tail).tail).tail).tail).tail).tail).tail).tail).tail).tail).tail).tail).tail).hd.c1
            obtain ⟨HL, hHL⟩ : ∃ HL, holesB nc fc 3 = HL := ⟨_, rfl⟩
            have hHH : holesB SN SLs 3 = 0 :: HL := by rw [← HSN.out, ← HSLs.out, ← hHL]; exact sus_holes HISC.out h6 hlen (by decide)
            have hl7 := holesB_len nc fc 3
            rw [hHL] at hl7
            have HHL := hid hHL
            have HHH := hid hHH
            clear hHL hHH
            go_wp2_with fail
            refine (sHolesMod_c nc (.slice pc lc kc) fc 3 _ (((((((((((((((((((HT.out).tail).tail).tail).tail).tail).tail).tail).tail).tail).tail).tail).tail).tail).tail).tail).tail).tail).tail).hd).mono ?_
            rw [HHL.out]
            rintro e wl ⟨vl, rfl, hN⟩
            have hL := (HT.out).call1 hN
            have s0 := (((((((((((((hL).tail).tail).tail).tail).tail).tail).tail).tail).tail).tail).tail).tail).hd.c0
            have s1 := (((((((((((((hL).tail).tail).tail).tail).tail).tail).tail).tail).tail).tail).tail).tail).hd.c1
            have HLW := hid hL
            clear hN hL ch0 ch1
            go_wp2_with fail
            refine (sHolesMod_c SN (.slice ps ls ks) SLs 3 _ ((((((((((((((HLW.out).tail).tail).tail).tail).tail).tail).tail).tail).tail).tail).tail).tail).tail).hd).mono ?_
            rw [HHH.out]
            rintro e wh ⟨vh, rfl, hN⟩
            have hH := HLW.out.call1 hN
            have lh := (hH).hd.iln tI
            have ll := ((hH).tail).hd.iln tI
            have i0 : ∀ w' : World, (Instr.indexAt 26 _ (.int .i64 0)).run Try.prog w' = .ok (.pointer (some (adr _ 0))) w' := (hH).hd.iix tI 0 (by simp)
            have i1 := (hH).hd.intCell 0 (by simp)
            have i2 : gi (0 :: HL) 0 = 0 := rfl
            rw [i2] at i1
            have i3 : ∀ w' : World, (Instr.sliceAt 26 vh (some (.int .i64 1)) none none).run Try.prog w' = .ok (fromTo vh 1) w' := (hH).hd.runFrom tI 1 (by simp)
            have hv := (hH).hd.ifromTo (l := 1) (by simp)
            have i4 : (0 :: HL).drop 1 = HL := rfl
            rw [i4] at hv
            have HV := hid hv
            have i5 : ((0 :: HL).length : Int) = (HL.length : Int) + 1 := by simp
            rw [i5] at lh
            have e3 : IntKind.i64.wrap ((HL.length : Int) + 1) = (HL.length : Int) + 1 := IntWalk.i64_in _ (by omega)
            have e4 : (((HL.length : Int) + 1) != ((HL.length : Int) + 1)) = false := by simp
            have HH := hid hH
            clear hN hH hv i2 i4 i5 s0 s1
            go_wp2_with fail
            refine (same_c _ _ HL _ HV.out ((HH.out).tail).hd).mono ?_
            rintro e wy ⟨rfl, qy, hq⟩
            have hN := HH.out.drewN qy
            rw [← hq] at hN
            have HY := hid hN
            clear hN hq i0 i1 i3
            cases seven with
            | false =>
              go_wp2_with fail
              go_ret
              exact ⟨rfl, (HY.out).bel⟩
            | true =>
              obtain ⟨K, hK1, hK3, rfl⟩ : ∃ K : Nat, 1 ≤ K ∧ K ≤ 3 ∧ kk = K := ⟨kk.toNat, by have := of_decide_eq_true Hseven.out; omega, by have := of_decide_eq_true Hseven.out; omega, by have := of_decide_eq_true Hseven.out; omega⟩
              have eMN : 2 * (K : Int) = MN := HMN.out
              have eML : crossL K = ML := HML.out
              obtain ⟨hsp, hln⟩ := cross_law hK1 hK3
              rw [eMN, eML] at hsp
              rw [eML] at hln
              have HSP := hid hsp
              have m0 := ((((((((HY.out).tail).tail).tail).tail).tail).tail).tail).hd.c0
              have m1 := ((((((((HY.out).tail).tail).tail).tail).tail).tail).tail).hd.c1
              have g1 : IntKind.u64.wrap (K : Int) = K := IntWalk.u64_in _ (by omega)
              clear eMN eML hsp
              go_wp2_with fail
              refine (sIsSphereLike_c MN (.slice pm lm km) ML 2 _ (((((((((HY.out).tail).tail).tail).tail).tail).tail).tail).tail).hd).mono ?_
              rw [HSP.out]
              rintro e wz ⟨rfl, hN⟩
              have hZ := (HY.out).quiet hN
              clear m0 m1
              have m0 := ((((((((hZ).tail).tail).tail).tail).tail).tail).tail).hd.c0
              have m1 := ((((((((hZ).tail).tail).tail).tail).tail).tail).tail).hd.c1
              have lenm := (((((((((hZ).tail).tail).tail).tail).tail).tail).tail).tail).hd.iln tI
              have HZ := hid hZ
              have e8 : wrap64 (2 ^ K) = ((2 ^ K : Nat) : Int) := by rcases (show K = 1 ∨ K = 2 ∨ K = 3 by omega) with e | e | e <;> (subst e; decide +kernel)
              have e9 : (((2 ^ K : Nat) : Int) == ((2 ^ K : Nat) : Int)) = true := by simp
              rw [hln] at lenm
              clear hN hZ hln
              go_wp2_with fail
              go_ret
              exact ⟨rfl, HZ.out.bel⟩
      · have ql : decide ((0 : Int) < (fc.length : Int)) = false := decide_eq_false (by omega)
        cases three with
        | false =>
          have ef : five = false := by rw [← Hfive.out]; exact sus_false Hthree.out
          subst ef
          go_wp2_with fail
          go_quiet (fail)
          have hA := (HFb2.out).drewN nq
          generalize World.drewN _ nq = w22 at *
          have HT := hid hA
          clear hA
          cases seven with
          | false =>
            go_wp2_with fail
            go_ret
            exact ⟨rfl, (HT.out).bel⟩
          | true =>
            obtain ⟨K, hK1, hK3, rfl⟩ : ∃ K : Nat, 1 ≤ K ∧ K ≤ 3 ∧ kk = K := ⟨kk.toNat, by have := of_decide_eq_true Hseven.out; omega, by have := of_decide_eq_true Hseven.out; omega, by have := of_decide_eq_true Hseven.out; omega⟩
            have eMN : 2 * (K : Int) = MN := HMN.out
            have eML : crossL K = ML := HML.out
            obtain ⟨hsp, hln⟩ := cross_law hK1 hK3
            rw [eMN, eML] at hsp
            rw [eML] at hln
            have HSP := hid hsp
            have m0 := ((((((HT.out).tail).tail).tail).tail).tail).hd.c0
            have m1 := ((((((HT.out).tail).tail).tail).tail).tail).hd.c1
            have g1 : IntKind.u64.wrap (K : Int) = K := IntWalk.u64_in _ (by omega)
            clear eMN eML hsp
            go_wp2_with fail
            refine (sIsSphereLike_c MN (.slice pm lm km) ML 2 _ (((((((HT.out).tail).tail).tail).tail).tail).tail).hd).mono ?_
            rw [HSP.out]
            rintro e wz ⟨rfl, hN⟩
            have hZ := (HT.out).quiet hN
            clear m0 m1
            have m0 := ((((((hZ).tail).tail).tail).tail).tail).hd.c0
            have m1 := ((((((hZ).tail).tail).tail).tail).tail).hd.c1
            have lenm := (((((((hZ).tail).tail).tail).tail).tail).tail).hd.iln tI
            have HZ := hid hZ
            have e8 : wrap64 (2 ^ K) = ((2 ^ K : Nat) : Int) := by rcases (show K = 1 ∨ K = 2 ∨ K = 3 by omega) with e | e | e <;> (subst e; decide +kernel)
            have e9 : (((2 ^ K : Nat) : Int) == ((2 ^ K : Nat) : Int)) = true := by simp
            rw [hln] at lenm
            clear hN hZ hln
            go_wp2_with fail
            go_ret
            exact ⟨rfl, HZ.out.bel⟩
        | true =>
          have hth := cone_true Hthree.out
          have HISC := hid hth.1
          have h5 : nc + 1 ≤ 6 := hth.2
          have h1 : 1 ≤ nc := hth.1.1
          have eXN : nc + 1 = XN := HXN.out
          have eXL : coneL nc fc = XL := HXL.out
          have lenc := (((((((((((((((((((HFb2.out).tail).tail).tail).tail).tail).tail).tail).tail).tail).tail).tail).tail).tail).tail).tail).tail).tail).tail).hd.iln tI
          have g1 : IntKind.u64.wrap nc = nc := IntWalk.u64_in _ (by omega)
          have HNH : Hid (∀ w1, Rd w1 (.slice px lx kx) (ints XL) → _) := fun w1 h => sHasNoHoles_c XN (.slice px lx kx) XL 2 w1 h
          have HCP : Hid (∀ w1, Rd w1 (.slice px lx kx) (ints XL) → _) := fun w1 h => ConePoints_c XN (.slice px lx kx) XL w1 h
          obtain ⟨cq2, hcq⟩ : ∃ cq2, conB XN XL = cq2 := ⟨_, rfl⟩
          rw [hcq] at HCP
          have hz : cq2 = 0 := by rw [← hcq, ← eXN, ← eXL]; exact cone_zero (by omega)
          subst hz
          have hbit := and_zero (n := nc) (by omega) (by omega)
          clear hth hcq eXN eXL
          unfold cx at HNH HCP
          have lxC0 : ∀ n : Later wfb, n.to.cell? ⟨w7.heap.size, 0, none⟩ = some (.int .i64 nc) := fun n => n.cell (((((((((((((((((((HFb2.out).tail).tail).tail).tail).tail).tail).tail).tail).tail).tail).tail).tail).tail).tail).tail).tail).tail).hd.c0)
          have lxC1 : ∀ n : Later wfb, n.to.cell? ⟨w7.heap.size, 1, none⟩ = some (.slice pc lc kc) := fun n => n.cell (((((((((((((((((((HFb2.out).tail).tail).tail).tail).tail).tail).tail).tail).tail).tail).tail).tail).tail).tail).tail).tail).tail).hd.c1)
          have lxX0 : ∀ n : Later wfb, n.to.cell? ⟨w8.heap.size, 0, none⟩ = some (.int .i64 XN) := fun n => n.cell (((((((((((((((((HFb2.out).tail).tail).tail).tail).tail).tail).tail).tail).tail).tail).tail).tail).tail).tail).tail).hd.c0)
          have lxX1 : ∀ n : Later wfb, n.to.cell? ⟨w8.heap.size, 1, none⟩ = some (.slice px lx kx) := fun n => n.cell (((((((((((((((((HFb2.out).tail).tail).tail).tail).tail).tail).tail).tail).tail).tail).tail).tail).tail).tail).tail).hd.c1)
          go_wp2_with fail
          refine wp_region_later (by kernel_rfl) (by kernel_rfl) ?_
          repeat (go_big_quiet_step ((first | (go_at_call 62; exact later_below (HNH.out _ ((((((((((((((((((HFb2.out).tail).tail).tail).tail).tail).tail).tail).tail).tail).tail).tail).tail).tail).tail).tail).tail).hd.later _))) | (go_at_call 59; exact later_below (HCP.out _ ((((((((((((((((((HFb2.out).tail).tail).tail).tail).tail).tail).tail).tail).tail).tail).tail).tail).tail).tail).tail).tail).hd.later _))))))
          refine wpQuiet_nil ?_
          intro _ hlw
          obtain ⟨⟨w22, hb22⟩, hlw⟩ := hlw
          dsimp only at hlw
          subst hlw
          clear lxC0 lxC1 lxX0 lxX1
          have hA := (HFb2.out).quiet hb22
          have HT := hid hA
          have ch0 := ((((((((((((((((((hA).tail).tail).tail).tail).tail).tail).tail).tail).tail).tail).tail).tail).tail).tail).tail).tail).tail).hd.c0
          have ch1 := ((((((((((((((((((hA).tail).tail).tail).tail).tail).tail).tail).tail).tail).tail).tail).tail).tail).tail).tail).tail).tail).hd.c1
          clear hA hb22
          cases five with
          | false =>
            clear ch0 ch1
            cases seven with
            | false =>
              go_wp2_with fail
              go_ret
              exact ⟨rfl, (HT.out).bel⟩
            | true =>
              obtain ⟨K, hK1, hK3, rfl⟩ : ∃ K : Nat, 1 ≤ K ∧ K ≤ 3 ∧ kk = K := ⟨kk.toNat, by have := of_decide_eq_true Hseven.out; omega, by have := of_decide_eq_true Hseven.out; omega, by have := of_decide_eq_true Hseven.out; omega⟩
              have eMN : 2 * (K : Int) = MN := HMN.out
              have eML : crossL K = ML := HML.out
              obtain ⟨hsp, hln⟩ := cross_law hK1 hK3
              rw [eMN, eML] at hsp
              rw [eML] at hln
              have HSP := hid hsp
              have m0 := ((((((HT.out).tail).tail).tail).tail).tail).hd.c0
              have m1 := ((((((HT.out).tail).tail).tail).tail).tail).hd.c1
              have g1 : IntKind.u64.wrap (K : Int) = K := IntWalk.u64_in _ (by omega)
              clear eMN eML hsp
              go_wp2_with fail
              refine (sIsSphereLike_c MN (.slice pm lm km) ML 2 _ (((((((HT.out).tail).tail).tail).tail).tail).tail).hd).mono ?_
              rw [HSP.out]
              rintro e wz ⟨rfl, hN⟩
              have hZ := (HT.out).quiet hN
              clear m0 m1
              have m0 := ((((((hZ).tail).tail).tail).tail).tail).hd.c0
              have m1 := ((((((hZ).tail).tail).tail).tail).tail).hd.c1
              have lenm := (((((((hZ).tail).tail).tail).tail).tail).tail).hd.iln tI
              have HZ := hid hZ
              have e8 : wrap64 (2 ^ K) = ((2 ^ K : Nat) : Int) := by rcases (show K = 1 ∨ K = 2 ∨ K = 3 by omega) with e | e | e <;> (subst e; decide +kernel)
              have e9 : (((2 ^ K : Nat) : Int) == ((2 ^ K : Nat) : Int)) = true := by simp
              rw [hln] at lenm
              clear hN hZ hln
              go_wp2_with fail
              go_ret
              exact ⟨rfl, HZ.out.bel⟩
          | true =>
            have h6 : nc + 2 ≤ 6 := (sus_true Hfive.out).2
            cases seven with
            | false =>
              go_wp2_with fail
              go_ret
              exact ⟨rfl, (HT.out).bel⟩
            | true =>
              obtain ⟨K, hK1, hK3, rfl⟩ : ∃ K : Nat, 1 ≤ K ∧ K ≤ 3 ∧ kk = K := ⟨kk.toNat, by have := of_decide_eq_true Hseven.out; omega, by have := of_decide_eq_true Hseven.out; omega, by have := of_decide_eq_true Hseven.out; omega⟩
              have eMN : 2 * (K : Int) = MN := HMN.out
              have eML : crossL K = ML := HML.out
              obtain ⟨hsp, hln⟩ := cross_law hK1 hK3
              rw [eMN, eML] at hsp
              rw [eML] at hln
              have HSP := hid hsp
              have m0 := ((((((HT.out).tail).tail).tail).tail).tail).hd.c0
              have m1 := ((((((HT.out).tail).tail).tail).tail).tail).hd.c1
              have g1 : IntKind.u64.wrap (K : Int) = K := IntWalk.u64_in _ (by omega)
              clear eMN eML hsp
              go_wp2_with fail
              refine (sIsSphereLike_c MN (.slice pm lm km) ML 2 _ (((((((HT.out).tail).tail).tail).tail).tail).tail).hd).mono ?_
              rw [HSP.out]
              rintro e wz ⟨rfl, hN⟩
              have hZ := (HT.out).quiet hN
              clear m0 m1
              have m0 := ((((((hZ).tail).tail).tail).tail).tail).hd.c0
              have m1 := ((((((hZ).tail).tail).tail).tail).tail).hd.c1
              have lenm := (((((((hZ).tail).tail).tail).tail).tail).tail).hd.iln tI
              have HZ := hid hZ
              have e8 : wrap64 (2 ^ K) = ((2 ^ K : Nat) : Int) := by rcases (show K = 1 ∨ K = 2 ∨ K = 3 by omega) with e | e | e <;> (subst e; decide +kernel)
              have e9 : (((2 ^ K : Nat) : Int) == ((2 ^ K : Nat) : Int)) = true := by simp
              rw [hln] at lenm
              clear hN hZ hln
              go_wp2_with fail
              go_ret
              exact ⟨rfl, HZ.out.bel⟩

theorem own : ownKnob Try.prog.godebug = none := by kernel_rfl
theorem laidOut : laidOutB Try.prog = true := by kernel_rfl

set_option maxRecDepth 100000 in
theorem lifted (os : Os) (started : os.Started) (H : Type) (enc : TypeId × Value → H) :
    ReturnsInHanded {} Try.checked os 5 .any (Rows.fnJoinsSpec.pre6 enc Try.prog Try.f5 Rows.fnJoinsRow.domain false) (Rows.fnJoinsSpec.post enc Try.prog Try.f5 false true false false) := by
  refine returnsInHanded_of_change (C := Try.checked) own started (by kernel_rfl) Try.func5
    (ChangeSpec.witness6 (enc := enc) (C := Try.checked) false ⟨#[], #[.slice none 0 0], []⟩ 8 (by kernel_rfl) (by kernel_rfl) (by kernel_rfl) (by kernel_rfl)) ?_
  intro W base args ds gs before hval0 hW hcnd _
  have hval : ∀ (j : Nat) t v, Try.f5.params[j]? = some t → args[j]? = some v → Value.okWide Try.prog W .any base t v := hval0
  have hW' := hW
  obtain ⟨p, q, hA0, hV, rfl, hfz, hnd⟩ := hW
  have hA : DataW.TrodAll enc Try.prog W 0 (fun _ => true) true Try.f5.params.toList args.toList ds p := hA0
  rw [Try.params5] at hA hval
  obtain ⟨v0, vs0, d0, ds0, p0, q0, hargs, rfl, rfl, h0, r0⟩ := trodAll_cons hA
  obtain ⟨rfl, rfl, rfl⟩ := trodAll_nil r0
  obtain rfl : args = #[v0] := by cases args; simp_all
  obtain ⟨rfl, rfl⟩ := trodVars_none hV
  obtain ⟨s0, len0, cap0, rfl⟩ := okWide_slice Try.underlying22 (hval 0 22 v0 rfl rfl)
  have k0 := h0
  have lt0 : ∀ x ∈ p0, x.block < W.heap.size := by obtain ⟨m, hm⟩ := k0; exact DataW.trod_lt m _ _ _ hm
  obtain ⟨z0, g0⟩ : ∃ zs, Rd W (.slice s0 len0 cap0) (byts zs) := by
    obtain ⟨fuel, hf⟩ := h0
    rcases open_ints Try.underlying22 Try.underlying5 (by kernel_rfl) hf with ⟨hcs, _⟩ | ⟨x, l, c, zs, hcs, _, hl, hm, hz, _, hcell, _⟩
    · simp [Value.cells] at hcs
      obtain ⟨rfl, rfl, rfl⟩ := hcs
      exact ⟨[], .inl ⟨rfl, rfl⟩⟩
    · simp [Value.cells] at hcs
      obtain ⟨rfl, rfl, rfl⟩ := hcs
      exact ⟨_, rdB_of_open hl hm (by simp at hz; omega) hcell⟩
  clear hA0 hval0
  refine (law_c _ z0 W g0).mono fun e W' ⟨he, bel⟩ => ?_
  subst he
  exact ⟨_, rfl, _, _, _, [], _, [], hW', trodAll_mk1 (shut_bool Try.underlying4 _), (trodAll_cons_mk (Below.trod laidOut (by kernel_rfl) (of_decide_eq_true (by kernel_rfl)) k0 bel lt0) trodAll_mk0), rfl, bel.frame _, fun h => by cases h⟩

theorem over : Rows.fnJoinsRow.holds Try.pinned (OpenSpec.ofChange Rows.fnJoinsSpec) :=
  OpenClaim.holds_of_wide 5 Try.f5 rfl rfl rfl rfl rfl rfl rfl ⟨rfl, rfl, rfl, rfl, rfl⟩ rfl rfl rfl rfl rfl (by kernel_rfl) Try.func5 (by kernel_rfl)
    (of_decide_eq_true (by kernel_rfl)) (by unfold Func.isWrapper; first | (rw [if_pos (by decide +kernel)]; kernel_rfl) | (rw [if_neg (by decide +kernel)]; exact ⟨rfl, rfl⟩))
    (fun os started H enc _ => lifted os started H enc)

theorem proved : Rows.FnJoinsSaid :=
  over
end Go.Proofs.Ytjaofbdfhcgmeaa.fnJoins
