/-
  The statement Rows.FnHolesSaid: the law answers true at every input, and its arguments read afterwards as before. No further condition.
-/
import Derived.Test.YtjaofbdfhcgmeaaHDraw
import Derived.ProofKit
import Derived.OpenShut
import Derived.ChangeOld
namespace Go.Proofs.Ytjaofbdfhcgmeaa.fnHoles
open Go.ChangeShapes Go.WideShapes Go.ChangeAt Go.RowKit
set_option linter.unusedVariables false

set_option maxHeartbeats 40000000 in
set_option maxRecDepth 100000 in
theorem law_c (u : Value) (z : List Int) (w : World) (g0 : Rd w u (byts z)) : Calls Try.prog 7 #[u] w fun e w' => e = .returned (.bool true) ∧ Below w.heap.size w w' := by
  by_cases hbig : 1048576 < (z.length : Int)
  · go_enter Try.func7, Try.ntmps7
    go_wp2_with (go_at_call 8; refine (big_c u z _ g0).mono ?_; rw [decide_eq_true hbig]; rintro e w' ⟨rfl, rfl⟩)
    go_ret
    exact ⟨rfl, Below.refl _ _⟩
  · have HS := hid (St.start w)
    have G := hid g0
    have HBG := hid (decide_eq_false hbig)
    clear hbig
    go_enter Try.func7, Try.ntmps7
    go_wp2_with (go_at_call 8; refine (big_c u z _ g0).mono ?_; rw [HBG.out]; rintro e w' ⟨rfl, rfl⟩)
    refine (DrawHolesMod_c u z _ g0).mono ?_
    rintro e w1 ⟨n, v, fs, pm, rfl, _, hN⟩
    obtain ⟨p, l, c, rfl⟩ := hN.hd.form
    have hS1 := (HS.out.call1 hN).boxAt n (.slice p l c) 30 (H := w1.heap.size) rfl
    have c0 := hS1.hd.c0
    have c1 := hS1.hd.c1
    have HS1 := hid hS1
    clear hN hS1
    have HC1 : Hid (∀ w1, Rd w1 (.slice p l c) (ints fs) → _) := fun w1 h => HolesMod_c n (.slice p l c) fs pm w1 h
    have HC2 : Hid (∀ w1, Rd w1 (.slice p l c) (ints fs) → _) := fun w1 h => sHolesMod_c n (.slice p l c) fs pm w1 h
    have HC3 : Hid (∀ w1, Rd w1 (.slice p l c) (ints fs) → _) := fun w1 h => CountHoles_c n (.slice p l c) fs pm w1 h
    have HC4 : Hid (∀ w1, Rd w1 (.slice p l c) (ints fs) → _) := fun w1 h => CountParts_c n (.slice p l c) fs w1 h
    have HC5 : Hid (∀ w1, Rd w1 (.slice p l c) (ints fs) → _) := fun w1 h => EulerOf_c n (.slice p l c) fs w1 h
    have hlaw0 := cntH_none (n := n) (xs := fs) (p := pm)
    have hlaw1 := holes_nonneg n fs pm
    have hlaw2 := holes_euler (n := n) (xs := fs) (p := pm)
    have hlaw3 := holes_first (n := n) (xs := fs) (p := pm)
    have hl7 := holesB_len n fs pm
    have hrg := holesB_rng n fs pm
    obtain ⟨ch, hch⟩ : ∃ ch, cntH n fs pm = ch := ⟨_, rfl⟩
    have hcs : sumTo (holesB n fs pm) (holesB n fs pm).length = ch := hch
    rw [hch] at hlaw0 HC3
    clear hch
    have qch : (ch != ch) = false := by simp
    obtain ⟨H, hH⟩ : ∃ H, holesB n fs pm = H := ⟨_, rfl⟩
    rw [hH] at hlaw0 hlaw1 hlaw2 hlaw3 hl7 hrg hcs HC1 HC2
    clear hH
    obtain ⟨eu, heu⟩ : ∃ eu, eulB n fs = eu := ⟨_, rfl⟩
    rw [heu] at hlaw2 HC5
    clear heu
    obtain ⟨pb, hpb⟩ : ∃ pb, partsB n fs = pb := ⟨_, rfl⟩
    rw [hpb] at hlaw3 HC4
    clear hpb
    have qeu : (eu == eu) = true := by simp
    have HL0 := hid hlaw0
    have HL1 := hid hlaw1
    have HL2 := hid hlaw2
    have HL3 := hid hlaw3
    have HCS := hid hcs
    have HRG := hid hrg
    clear hlaw0 hlaw1 hlaw2 hlaw3 hcs hrg
    unfold cx at HC1 HC2 HC3 HC4 HC5 ⊢
    go_wp2_with fail
    refine (HC1.out _ HS1.out.tail.hd).mono ?_
    rintro e w2 ⟨vh, rfl, hN⟩
    have hS2 := HS1.out.call1 hN
    have lh := hS2.hd.iln tI
    have HS2 := hid hS2
    clear hN hS2 c0 c1
    go_wp2_with fail
    refine (DrawHasNoHoles_c u z _ (HS2.out.old G.out)).mono ?_
    rintro e w3 ⟨n2, v2, fs2, q, rfl, _, hN⟩
    obtain ⟨p2, l2, c2, rfl⟩ := hN.hd.form
    have HS3 := hid ((HS2.out.call1 hN).boxAt n2 (.slice p2 l2 c2) 30 (H := w3.heap.size) rfl)
    clear hN
    have HD1 : Hid (∀ w1, Rd w1 (.slice p2 l2 c2) (ints fs2) → _) := fun w1 h => HasNoHoles_c n2 (.slice p2 l2 c2) fs2 q w1 h
    have HD2 : Hid (∀ w1, Rd w1 (.slice p2 l2 c2) (ints fs2) → _) := fun w1 h => sHasNoHoles_c n2 (.slice p2 l2 c2) fs2 q w1 h
    have HD3 : Hid (∀ w1, Rd w1 (.slice p2 l2 c2) (ints fs2) → _) := fun w1 h => sConePoints_c n2 (.slice p2 l2 c2) fs2 w1 h
    obtain ⟨nb, hnb⟩ : ∃ nb, noHB n2 fs2 q = nb := ⟨_, rfl⟩
    have hcone : conB n2 fs2 ≠ 0 → primeB q = true → nb = true := fun h h' => by rw [← hnb]; exact cone_noH h h'
    rw [hnb] at HD1 HD2
    clear hnb
    have qnb : (nb != nb) = false := by simp
    obtain ⟨cp, hcp⟩ : ∃ cp, conB n2 fs2 = cp := ⟨_, rfl⟩
    rw [hcp] at HD3 hcone
    clear hcp
    have HCN := hid hcone
    clear hcone
    unfold cx at HD1 HD2 HD3
    try unfold cx
    go_wp2_with fail
    refine (DrawIsSphereLike_c u z _ (HS3.out.old G.out)).mono ?_
    rintro e w4 ⟨n3, v3, fs3, q3, rfl, _, hN⟩
    obtain ⟨p3, l3, c3, rfl⟩ := hN.hd.form
    have HS4 := hid ((HS3.out.call1 hN).boxAt n3 (.slice p3 l3 c3) 30 (H := w4.heap.size) rfl)
    clear hN
    have HE1 : Hid (∀ w1, Rd w1 (.slice p3 l3 c3) (ints fs3) → _) := fun w1 h => IsSphereLike_c n3 (.slice p3 l3 c3) fs3 q3 w1 h
    have HE2 : Hid (∀ w1, Rd w1 (.slice p3 l3 c3) (ints fs3) → _) := fun w1 h => sIsSphereLike_c n3 (.slice p3 l3 c3) fs3 q3 w1 h
    obtain ⟨sb, hsb⟩ : ∃ sb, sphB n3 fs3 q3 = sb := ⟨_, rfl⟩
    rw [hsb] at HE1 HE2
    clear hsb
    have qsb : (sb != sb) = false := by simp
    unfold cx at HE1 HE2
    try unfold cx
    go_wp2_with fail
    refine (DrawCountParts_c u z _ (HS4.out.old G.out)).mono ?_
    rintro e w5 ⟨n4, v4, fs4, rfl, _, hN⟩
    obtain ⟨p4, l4, c4, rfl⟩ := hN.hd.form
    have hS5 := (HS4.out.call1 hN).boxAt n4 (.slice p4 l4 c4) 30 (H := w5.heap.size) rfl
    have HF1 : Hid (∀ w1, Rd w1 (.slice p4 l4 c4) (ints fs4) → _) := fun w1 h => CountParts_c n4 (.slice p4 l4 c4) fs4 w1 h
    have HF2 : Hid (∀ w1, Rd w1 (.slice p4 l4 c4) (ints fs4) → _) := fun w1 h => sCountParts_c n4 (.slice p4 l4 c4) fs4 w1 h
    obtain ⟨pp, hpp⟩ : ∃ pp, partsB n4 fs4 = pp := ⟨_, rfl⟩
    rw [hpp] at HF1 HF2
    clear hpp
    have qpp : (pp != pp) = false := by simp
    unfold cx at HF1 HF2
    try unfold cx
    have k0 := ((((((((hS5).tail).tail).tail).tail).tail).tail).tail).hd.c0
    have k1 := ((((((((hS5).tail).tail).tail).tail).tail).tail).tail).hd.c1
    have k2 := (((((hS5).tail).tail).tail).tail).hd.c0
    have k3 := (((((hS5).tail).tail).tail).tail).hd.c1
    have k4 := (((hS5).tail).tail).hd.c0
    have k5 := (((hS5).tail).tail).hd.c1
    have k6 := (hS5).hd.c0
    have k7 := (hS5).hd.c1
    have HS5 := hid hS5
    clear hN hS5
    go_wp2_with fail
    generalize w5.alloc _ = w6 at *
    go_region_held3 (fun w' => w'.cell? ⟨w1.heap.size, 0, none⟩ = some (.int .i64 (n)) ∧ w'.cell? ⟨w1.heap.size, 1, none⟩ = some (.slice p l c) ∧ w'.cell? ⟨w3.heap.size, 0, none⟩ = some (.int .i64 (n2)) ∧ w'.cell? ⟨w3.heap.size, 1, none⟩ = some (.slice p2 l2 c2) ∧ w'.cell? ⟨w4.heap.size, 0, none⟩ = some (.int .i64 (n3)) ∧ w'.cell? ⟨w4.heap.size, 1, none⟩ = some (.slice p3 l3 c3) ∧ w'.cell? ⟨w5.heap.size, 0, none⟩ = some (.int .i64 (n4)) ∧ w'.cell? ⟨w5.heap.size, 1, none⟩ = some (.slice p4 l4 c4)) (first | go_keep | exact ⟨k0, k1, k2, k3, k4, k5, k6, k7⟩)
      (first
        | (go_at_call 93; refine (HF2.out _ (((HA9.out).tail).tail).hd).mono ?_; rintro e wa10 ⟨rfl, hN⟩; have hA := (HA9.out).quiet hN; have k0 := (((((((((hA).tail).tail).tail).tail).tail).tail).tail).tail).hd.c0; have k1 := (((((((((hA).tail).tail).tail).tail).tail).tail).tail).tail).hd.c1; have k2 := ((((((hA).tail).tail).tail).tail).tail).hd.c0; have k3 := ((((((hA).tail).tail).tail).tail).tail).hd.c1; have k4 := ((((hA).tail).tail).tail).hd.c0; have k5 := ((((hA).tail).tail).tail).hd.c1; have k6 := ((hA).tail).hd.c0; have k7 := ((hA).tail).hd.c1; have HA10 := hid hA; clear hA hN)
        | (go_at_call 92; refine (HF1.out _ (((HA8.out).tail).tail).hd).mono ?_; rintro e wa9 ⟨rfl, hN⟩; have hA := (HA8.out).quiet hN; have k0 := (((((((((hA).tail).tail).tail).tail).tail).tail).tail).tail).hd.c0; have k1 := (((((((((hA).tail).tail).tail).tail).tail).tail).tail).tail).hd.c1; have k2 := ((((((hA).tail).tail).tail).tail).tail).hd.c0; have k3 := ((((((hA).tail).tail).tail).tail).tail).hd.c1; have k4 := ((((hA).tail).tail).tail).hd.c0; have k5 := ((((hA).tail).tail).tail).hd.c1; have k6 := ((hA).tail).hd.c0; have k7 := ((hA).tail).hd.c1; have HA9 := hid hA; clear hA hN)
        | (go_at_call 63; refine (HE2.out _ (((((HA7.out).tail).tail).tail).tail).hd).mono ?_; rintro e wa8 ⟨rfl, hN⟩; have hA := (HA7.out).quiet hN; have k0 := (((((((((hA).tail).tail).tail).tail).tail).tail).tail).tail).hd.c0; have k1 := (((((((((hA).tail).tail).tail).tail).tail).tail).tail).tail).hd.c1; have k2 := ((((((hA).tail).tail).tail).tail).tail).hd.c0; have k3 := ((((((hA).tail).tail).tail).tail).tail).hd.c1; have k4 := ((((hA).tail).tail).tail).hd.c0; have k5 := ((((hA).tail).tail).tail).hd.c1; have k6 := ((hA).tail).hd.c0; have k7 := ((hA).tail).hd.c1; have HA8 := hid hA; clear hA hN)
        | (go_at_call 91; refine (HE1.out _ (((((HA6.out).tail).tail).tail).tail).hd).mono ?_; rintro e wa7 ⟨rfl, hN⟩; have hA := (HA6.out).quiet hN; have k0 := (((((((((hA).tail).tail).tail).tail).tail).tail).tail).tail).hd.c0; have k1 := (((((((((hA).tail).tail).tail).tail).tail).tail).tail).tail).hd.c1; have k2 := ((((((hA).tail).tail).tail).tail).tail).hd.c0; have k3 := ((((((hA).tail).tail).tail).tail).tail).hd.c1; have k4 := ((((hA).tail).tail).tail).hd.c0; have k5 := ((((hA).tail).tail).tail).hd.c1; have k6 := ((hA).tail).hd.c0; have k7 := ((hA).tail).hd.c1; have HA7 := hid hA; clear hA hN)
        | (go_at_call 62; refine (HD2.out _ (((((((HA5.out).tail).tail).tail).tail).tail).tail).hd).mono ?_; rintro e wa6 ⟨rfl, hN⟩; have hA := (HA5.out).quiet hN; have k0 := (((((((((hA).tail).tail).tail).tail).tail).tail).tail).tail).hd.c0; have k1 := (((((((((hA).tail).tail).tail).tail).tail).tail).tail).tail).hd.c1; have k2 := ((((((hA).tail).tail).tail).tail).tail).hd.c0; have k3 := ((((((hA).tail).tail).tail).tail).tail).hd.c1; have k4 := ((((hA).tail).tail).tail).hd.c0; have k5 := ((((hA).tail).tail).tail).hd.c1; have k6 := ((hA).tail).hd.c0; have k7 := ((hA).tail).hd.c1; have HA6 := hid hA; clear hA hN)
        | (go_at_call 90; refine (HD1.out _ (((((((HA3.out).tail).tail).tail).tail).tail).tail).hd).mono ?_; rintro e wa5 ⟨rfl, hN⟩; have hA := (HA3.out).quiet hN; have k0 := (((((((((hA).tail).tail).tail).tail).tail).tail).tail).tail).hd.c0; have k1 := (((((((((hA).tail).tail).tail).tail).tail).tail).tail).tail).hd.c1; have k2 := ((((((hA).tail).tail).tail).tail).tail).hd.c0; have k3 := ((((((hA).tail).tail).tail).tail).tail).hd.c1; have k4 := ((((hA).tail).tail).tail).hd.c0; have k5 := ((((hA).tail).tail).tail).hd.c1; have k6 := ((hA).tail).hd.c0; have k7 := ((hA).tail).hd.c1; have HA5 := hid hA; clear hA hN)
        | (go_at_call 89; refine (total_c _ H _ ((((((((HA3.out).tail).tail).tail).tail).tail).tail).tail).hd HRG.out hl7).mono ?_; rw [HCS.out]; rintro e w' ⟨rfl, rfl⟩)
        | (go_at_call 88; refine (HC3.out _ ((((((((((HA2.out).tail).tail).tail).tail).tail).tail).tail).tail).tail).hd).mono ?_; rintro e wa3 ⟨rfl, hN⟩; have hA := (HA2.out).quiet hN; have k0 := (((((((((hA).tail).tail).tail).tail).tail).tail).tail).tail).hd.c0; have k1 := (((((((((hA).tail).tail).tail).tail).tail).tail).tail).tail).hd.c1; have k2 := ((((((hA).tail).tail).tail).tail).tail).hd.c0; have k3 := ((((((hA).tail).tail).tail).tail).tail).hd.c1; have k4 := ((((hA).tail).tail).tail).hd.c0; have k5 := ((((hA).tail).tail).tail).hd.c1; have k6 := ((hA).tail).hd.c0; have k7 := ((hA).tail).hd.c1; have HA3 := hid hA; clear hA hN)
        | (go_at_call 17; refine (same_c _ _ H _ ((((((((HA1.out).tail).tail).tail).tail).tail).tail).tail).hd (HA1.out).hd).mono ?_; rintro e wa2 ⟨rfl, q2, hq⟩; have hA := (HA1.out).drewN q2; rw [← hq] at hA; have hN := hq; clear hq; have k0 := (((((((((hA).tail).tail).tail).tail).tail).tail).tail).tail).hd.c0; have k1 := (((((((((hA).tail).tail).tail).tail).tail).tail).tail).tail).hd.c1; have k2 := ((((((hA).tail).tail).tail).tail).tail).hd.c0; have k3 := ((((((hA).tail).tail).tail).tail).tail).hd.c1; have k4 := ((((hA).tail).tail).tail).hd.c0; have k5 := ((((hA).tail).tail).tail).hd.c1; have k6 := ((hA).tail).hd.c0; have k7 := ((hA).tail).hd.c1; have HA2 := hid hA; clear hA hN)
        | (go_at_call 41; refine (HC2.out _ ((((((((((HS5.out.drewN 1)).tail).tail).tail).tail).tail).tail).tail).tail).hd).mono ?_; rintro e wa1 ⟨va1, rfl, hN⟩; have hA := ((HS5.out.drewN 1)).call1 hN; have k0 := (((((((((hA).tail).tail).tail).tail).tail).tail).tail).tail).hd.c0; have k1 := (((((((((hA).tail).tail).tail).tail).tail).tail).tail).tail).hd.c1; have k2 := ((((((hA).tail).tail).tail).tail).tail).hd.c0; have k3 := ((((((hA).tail).tail).tail).tail).tail).hd.c1; have k4 := ((((hA).tail).tail).tail).hd.c0; have k5 := ((((hA).tail).tail).tail).hd.c1; have k6 := ((hA).tail).hd.c0; have k7 := ((hA).tail).hd.c1; have HA1 := hid hA; clear hA hN))
    by_cases hcp : cp = 0
    · have qcp : (cp != 0) = false := by simp [hcp]
      go_wp2_with fail
      refine (HD3.out _ (((((((HA10.out).tail).tail).tail).tail).tail).tail).hd).mono ?_
      rintro e w7 ⟨rfl, hN⟩
      have HR7 := hid ((HA10.out).quiet hN)
      clear hN
      have k0 := (((((((((HR7.out).tail).tail).tail).tail).tail).tail).tail).tail).hd.c0
      have k1 := (((((((((HR7.out).tail).tail).tail).tail).tail).tail).tail).tail).hd.c1
      by_cases hz : H.length = 0
      · have q0 : ((H.length : Int) == 0) = true := by rw [beq_iff_eq]; omega
        have ech := HL0.out hz
        subst ech
        go_wp2_with fail
        refine (HC3.out _ ((((((((((HR7.out).tail).tail).tail).tail).tail).tail).tail).tail).tail).hd).mono ?_
        rintro e w8 ⟨rfl, hN⟩
        have HR8 := hid ((HR7.out).quiet hN)
        clear hN
        go_wp2_with fail
        go_ret
        exact ⟨rfl, HR8.out.bel⟩
      · have q0 : ((H.length : Int) == 0) = false := by rw [beq_eq_false_iff_ne]; omega
        have hrh := ((((((((HR7.out).tail).tail).tail).tail).tail).tail).tail).hd
        have HRH := hid hrh
        clear hrh
        go_wp2_with fail
        go_loop [11] (fun i => ∃ i' : Nat, i' ≤ H.length ∧ i = .int .i64 i') (fun i => H.length - (intOf i).toNat)
        case atStart => exact ⟨0, Nat.zero_le _, rfl⟩
        case round =>
          obtain ⟨i, hi, rfl⟩ := hrel
          by_cases hlt : i < H.length
          · have f1 := HRH.out.iix tI i hlt
            have f2 := HRH.out.intCell i hlt
            have f3 : decide (gi H i < 0) = false := decide_eq_false (by have := HL1.out i; omega)
            go_wp2_with fail
            go_round
            case rel => exact ⟨i + 1, by omega, by go_num⟩
            case measure => simp [intOf]; omega
          · have qi : decide ((i : Int) < (H.length : Int)) = false := decide_eq_false (by omega)
            have HE := hid (HL2.out (by omega))
            have HSG : Hid (∀ w1, Rd w1 vh (ints H) → Calls Try.prog 94 #[vh] w1 fun e w' => e = .returned (.int .i64 eu) ∧ w1 = w') := fun w1 h => by have := signed_c _ H w1 h HRG.out hl7; rwa [HE.out] at this
            obtain ⟨hA, hB⟩ := HL3.out (by omega)
            have i0 : ∀ w' : World, (Instr.indexAt 26 _ (.int .i64 0)).run Try.prog w' = .ok (.pointer (some (adr _ 0))) w' := HRH.out.iix tI 0 (by omega)
            by_cases h1 : 1 < H.length
            · obtain ⟨z0, z1⟩ := hA h1
              have q1 : decide ((1 : Int) < (H.length : Int)) = true := decide_eq_true (by omega)
              have i1 : ∀ w' : World, (Instr.indexAt 26 _ (.int .i64 1)).run Try.prog w' = .ok (.pointer (some (adr _ 1))) w' := HRH.out.iix tI 1 h1
              have HV0 : Hid (∀ w' : World, Rd w' vh (ints H) → w'.cell? (adr vh 0) = some (.int .i64 0)) := fun w' h => by have := h.intCell 0 (by omega); rwa [z0] at this
              obtain ⟨y, hy⟩ : ∃ y, pb - 1 = y := ⟨_, rfl⟩
              have hpb : -200 ≤ pb ∧ pb ≤ 200 := by have := HRG.out 1; omega
              rw [hy] at z1
              have HV1 : Hid (∀ w' : World, Rd w' vh (ints H) → w'.cell? (adr vh 1) = some (.int .i64 y)) := fun w' h => by have := h.intCell 1 h1; rwa [z1] at this
              obtain ⟨pb0, pb1⟩ := hpb
              have q2 : (y != y) = false := by simp
              have ew : IntKind.i64.wrap (pb - 1) = y := by rw [← hy]; exact IntWalk.i64_in _ (by omega)
              have v0 := HV0.out _ HRH.out
              have v1 := HV1.out _ HRH.out
              clear z1 hA hB hy
              go_wp2_with fail
              go_region_held3 (fun w' => w'.cell? ⟨w1.heap.size, 0, none⟩ = some (.int .i64 (n)) ∧ w'.cell? ⟨w1.heap.size, 1, none⟩ = some (.slice p l c) ∧ w'.cell? (adr vh 0) = some (.int .i64 0) ∧ w'.cell? (adr vh 1) = some (.int .i64 y)) (first | go_keep | exact ⟨k0', k1', v0', v1'⟩ | exact ⟨k0, k1, v0, v1⟩)
                (first | (go_at_call 92; refine (HC4.out _ ((((((((((((HR7.out).drewN 1)).tail).tail).tail).tail).tail).tail).tail).tail).tail).hd).mono ?_; rintro e w9 ⟨rfl, hN⟩; have hA := (((HR7.out).drewN 1)).quiet hN; have k0' := (((((((((hA).tail).tail).tail).tail).tail).tail).tail).tail).hd.c0; have k1' := (((((((((hA).tail).tail).tail).tail).tail).tail).tail).tail).hd.c1; have v0' := HV0.out _ ((((((((hA).tail).tail).tail).tail).tail).tail).tail).hd; have v1' := HV1.out _ ((((((((hA).tail).tail).tail).tail).tail).tail).tail).hd; have HR9 := hid hA; clear hA hN))
              all_goals
                go_wp2_with fail
                have lx0 : ∀ n : Later w9, n.to.cell? ⟨w1.heap.size, 0, none⟩ = some (.int .i64 _) := fun n => n.cell ((((((((((HR9.out).tail).tail).tail).tail).tail).tail).tail).tail).hd.c0)
                have lx1 : ∀ n : Later w9, n.to.cell? ⟨w1.heap.size, 1, none⟩ = some (.slice p l c) := fun n => n.cell ((((((((((HR9.out).tail).tail).tail).tail).tail).tail).tail).tail).hd.c1)
                have lv0 := ((((((((HR9.out).tail).tail).tail).tail).tail).tail).tail).hd.laterCell 0 (by omega)
                rw [z0] at lv0
                have lv1 : ∀ n : Later w9, n.to.cell? (adr vh 0) = _ := lv0
                clear lv0
                refine wp_region_later (by kernel_rfl) (by kernel_rfl) ?_
                repeat (go_big_quiet_step ((first | (go_at_call 95; exact later_below (HC5.out _ (((((((((((HR9.out).tail).tail).tail).tail).tail).tail).tail).tail).tail).hd.later _))) | (go_at_call 94; exact later_same (HSG.out _ (((((((((HR9.out).tail).tail).tail).tail).tail).tail).tail).hd.later _))))))
                refine wpQuiet_nil ?_
                intro _ hlw
                obtain ⟨⟨w10, hb10⟩, hlw⟩ := hlw
                dsimp only at hlw
                subst hlw
                clear lx0 lx1 lv1
                go_wp2_with fail
                go_ret
                exact ⟨rfl, (HR9.out.quiet hb10).bel⟩
            · have q1 : decide ((1 : Int) < (H.length : Int)) = false := decide_eq_false (by omega)
              have z0 := hB (by omega)
              have HV0 : Hid (∀ w' : World, Rd w' vh (ints H) → w'.cell? (adr vh 0) = some (.int .i64 1)) := fun w' h => by have := h.intCell 0 (by omega); rwa [z0] at this
              have v0 := HV0.out _ HRH.out
              clear hA hB
              go_wp2_with fail
              go_quiet (fail)
              have hA := (HR7.out).drewN nq
              clear k0 k1 v0
              generalize World.drewN _ nq = w9 at *
              have k0 := (((((((((hA).tail).tail).tail).tail).tail).tail).tail).tail).hd.c0
              have k1 := (((((((((hA).tail).tail).tail).tail).tail).tail).tail).tail).hd.c1
              have v0 := HV0.out _ ((((((((hA).tail).tail).tail).tail).tail).tail).tail).hd
              have HR9 := hid hA
              clear hA
              go_wp2_with fail
              have lx0 : ∀ n : Later w9, n.to.cell? ⟨w1.heap.size, 0, none⟩ = some (.int .i64 _) := fun n => n.cell ((((((((((HR9.out).tail).tail).tail).tail).tail).tail).tail).tail).hd.c0)
              have lx1 : ∀ n : Later w9, n.to.cell? ⟨w1.heap.size, 1, none⟩ = some (.slice p l c) := fun n => n.cell ((((((((((HR9.out).tail).tail).tail).tail).tail).tail).tail).tail).hd.c1)
              have lv0 := ((((((((HR9.out).tail).tail).tail).tail).tail).tail).tail).hd.laterCell 0 (by omega)
              rw [z0] at lv0
              have lv1 : ∀ n : Later w9, n.to.cell? (adr vh 0) = _ := lv0
              clear lv0
              refine wp_region_later (by kernel_rfl) (by kernel_rfl) ?_
              repeat (go_big_quiet_step ((first | (go_at_call 95; exact later_below (HC5.out _ (((((((((((HR9.out).tail).tail).tail).tail).tail).tail).tail).tail).tail).hd.later _))) | (go_at_call 94; exact later_same (HSG.out _ (((((((((HR9.out).tail).tail).tail).tail).tail).tail).tail).hd.later _))))))
              refine wpQuiet_nil ?_
              intro _ hlw
              obtain ⟨⟨w10, hb10⟩, hlw⟩ := hlw
              dsimp only at hlw
              subst hlw
              clear lx0 lx1 lv1
              go_wp2_with fail
              go_ret
              exact ⟨rfl, (HR9.out.quiet hb10).bel⟩
    · have qcp : (cp != 0) = true := by simp [hcp]
      go_wp2_with fail
      refine (HD3.out _ (((((((HA10.out).tail).tail).tail).tail).tail).tail).hd).mono ?_
      rintro e w7 ⟨rfl, hN⟩
      have hR7 := (HA10.out).quiet hN
      have k2 := ((((((hR7).tail).tail).tail).tail).tail).hd.c0
      have k3 := ((((((hR7).tail).tail).tail).tail).tail).hd.c1
      have HR7 := hid hR7
      clear hN hR7
      obtain ⟨fb, hfb⟩ : ∃ fb, primeB q = fb := ⟨_, rfl⟩
      have HFB := hid hfb
      clear hfb
      cases fb with
      | false =>
        have k0 := (((((((((HR7.out).tail).tail).tail).tail).tail).tail).tail).tail).hd.c0
        have k1 := (((((((((HR7.out).tail).tail).tail).tail).tail).tail).tail).tail).hd.c1
        by_cases hz : H.length = 0
        · have q0 : ((H.length : Int) == 0) = true := by rw [beq_iff_eq]; omega
          have ech := HL0.out hz
          subst ech
          go_wp2_with (go_at_call 82; refine (sIsFieldPrime_c _ _).mono ?_; rw [HFB.out]; rintro e w' ⟨rfl, rfl⟩)
          refine (HC3.out _ ((((((((((HR7.out).tail).tail).tail).tail).tail).tail).tail).tail).tail).hd).mono ?_
          rintro e w8 ⟨rfl, hN⟩
          have HR8 := hid ((HR7.out).quiet hN)
          clear hN
          go_wp2_with fail
          go_ret
          exact ⟨rfl, HR8.out.bel⟩
        · have q0 : ((H.length : Int) == 0) = false := by rw [beq_eq_false_iff_ne]; omega
          have hrh := ((((((((HR7.out).tail).tail).tail).tail).tail).tail).tail).hd
          have HRH := hid hrh
          clear hrh
          go_wp2_with (go_at_call 82; refine (sIsFieldPrime_c _ _).mono ?_; rw [HFB.out]; rintro e w' ⟨rfl, rfl⟩)
          go_loop [11] (fun i => ∃ i' : Nat, i' ≤ H.length ∧ i = .int .i64 i') (fun i => H.length - (intOf i).toNat)
          case atStart => exact ⟨0, Nat.zero_le _, rfl⟩
          case round =>
            obtain ⟨i, hi, rfl⟩ := hrel
            by_cases hlt : i < H.length
            · have f1 := HRH.out.iix tI i hlt
              have f2 := HRH.out.intCell i hlt
              have f3 : decide (gi H i < 0) = false := decide_eq_false (by have := HL1.out i; omega)
              go_wp2_with fail
              go_round
              case rel => exact ⟨i + 1, by omega, by go_num⟩
              case measure => simp [intOf]; omega
            · have qi : decide ((i : Int) < (H.length : Int)) = false := decide_eq_false (by omega)
              have HE := hid (HL2.out (by omega))
              have HSG : Hid (∀ w1, Rd w1 vh (ints H) → Calls Try.prog 94 #[vh] w1 fun e w' => e = .returned (.int .i64 eu) ∧ w1 = w') := fun w1 h => by have := signed_c _ H w1 h HRG.out hl7; rwa [HE.out] at this
              obtain ⟨hA, hB⟩ := HL3.out (by omega)
              have i0 : ∀ w' : World, (Instr.indexAt 26 _ (.int .i64 0)).run Try.prog w' = .ok (.pointer (some (adr _ 0))) w' := HRH.out.iix tI 0 (by omega)
              by_cases h1 : 1 < H.length
              · obtain ⟨z0, z1⟩ := hA h1
                have q1 : decide ((1 : Int) < (H.length : Int)) = true := decide_eq_true (by omega)
                have i1 : ∀ w' : World, (Instr.indexAt 26 _ (.int .i64 1)).run Try.prog w' = .ok (.pointer (some (adr _ 1))) w' := HRH.out.iix tI 1 h1
                have HV0 : Hid (∀ w' : World, Rd w' vh (ints H) → w'.cell? (adr vh 0) = some (.int .i64 0)) := fun w' h => by have := h.intCell 0 (by omega); rwa [z0] at this
                obtain ⟨y, hy⟩ : ∃ y, pb - 1 = y := ⟨_, rfl⟩
                have hpb : -200 ≤ pb ∧ pb ≤ 200 := by have := HRG.out 1; omega
                rw [hy] at z1
                have HV1 : Hid (∀ w' : World, Rd w' vh (ints H) → w'.cell? (adr vh 1) = some (.int .i64 y)) := fun w' h => by have := h.intCell 1 h1; rwa [z1] at this
                obtain ⟨pb0, pb1⟩ := hpb
                have q2 : (y != y) = false := by simp
                have ew : IntKind.i64.wrap (pb - 1) = y := by rw [← hy]; exact IntWalk.i64_in _ (by omega)
                have v0 := HV0.out _ HRH.out
                have v1 := HV1.out _ HRH.out
                clear z1 hA hB hy
                go_wp2_with fail
                go_region_held3 (fun w' => w'.cell? ⟨w1.heap.size, 0, none⟩ = some (.int .i64 (n)) ∧ w'.cell? ⟨w1.heap.size, 1, none⟩ = some (.slice p l c) ∧ w'.cell? (adr vh 0) = some (.int .i64 0) ∧ w'.cell? (adr vh 1) = some (.int .i64 y)) (first | go_keep | exact ⟨k0', k1', v0', v1'⟩ | exact ⟨k0, k1, v0, v1⟩)
                  (first | (go_at_call 92; refine (HC4.out _ ((((((((((((HR7.out).drewN 1)).tail).tail).tail).tail).tail).tail).tail).tail).tail).hd).mono ?_; rintro e w9 ⟨rfl, hN⟩; have hA := (((HR7.out).drewN 1)).quiet hN; have k0' := (((((((((hA).tail).tail).tail).tail).tail).tail).tail).tail).hd.c0; have k1' := (((((((((hA).tail).tail).tail).tail).tail).tail).tail).tail).hd.c1; have v0' := HV0.out _ ((((((((hA).tail).tail).tail).tail).tail).tail).tail).hd; have v1' := HV1.out _ ((((((((hA).tail).tail).tail).tail).tail).tail).tail).hd; have HR9 := hid hA; clear hA hN))
                all_goals
                  go_wp2_with fail
                  have lx0 : ∀ n : Later w9, n.to.cell? ⟨w1.heap.size, 0, none⟩ = some (.int .i64 _) := fun n => n.cell ((((((((((HR9.out).tail).tail).tail).tail).tail).tail).tail).tail).hd.c0)
                  have lx1 : ∀ n : Later w9, n.to.cell? ⟨w1.heap.size, 1, none⟩ = some (.slice p l c) := fun n => n.cell ((((((((((HR9.out).tail).tail).tail).tail).tail).tail).tail).tail).hd.c1)
                  have lv0 := ((((((((HR9.out).tail).tail).tail).tail).tail).tail).tail).hd.laterCell 0 (by omega)
                  rw [z0] at lv0
                  have lv1 : ∀ n : Later w9, n.to.cell? (adr vh 0) = _ := lv0
                  clear lv0
                  refine wp_region_later (by kernel_rfl) (by kernel_rfl) ?_
                  repeat (go_big_quiet_step ((first | (go_at_call 95; exact later_below (HC5.out _ (((((((((((HR9.out).tail).tail).tail).tail).tail).tail).tail).tail).tail).hd.later _))) | (go_at_call 94; exact later_same (HSG.out _ (((((((((HR9.out).tail).tail).tail).tail).tail).tail).tail).hd.later _))))))
                  refine wpQuiet_nil ?_
                  intro _ hlw
                  obtain ⟨⟨w10, hb10⟩, hlw⟩ := hlw
                  dsimp only at hlw
                  subst hlw
                  clear lx0 lx1 lv1
                  go_wp2_with fail
                  go_ret
                  exact ⟨rfl, (HR9.out.quiet hb10).bel⟩
              · have q1 : decide ((1 : Int) < (H.length : Int)) = false := decide_eq_false (by omega)
                have z0 := hB (by omega)
                have HV0 : Hid (∀ w' : World, Rd w' vh (ints H) → w'.cell? (adr vh 0) = some (.int .i64 1)) := fun w' h => by have := h.intCell 0 (by omega); rwa [z0] at this
                have v0 := HV0.out _ HRH.out
                clear hA hB
                go_wp2_with fail
                go_quiet (fail)
                have hA := (HR7.out).drewN nq
                clear k0 k1 v0
                generalize World.drewN _ nq = w9 at *
                have k0 := (((((((((hA).tail).tail).tail).tail).tail).tail).tail).tail).hd.c0
                have k1 := (((((((((hA).tail).tail).tail).tail).tail).tail).tail).tail).hd.c1
                have v0 := HV0.out _ ((((((((hA).tail).tail).tail).tail).tail).tail).tail).hd
                have HR9 := hid hA
                clear hA
                go_wp2_with fail
                have lx0 : ∀ n : Later w9, n.to.cell? ⟨w1.heap.size, 0, none⟩ = some (.int .i64 _) := fun n => n.cell ((((((((((HR9.out).tail).tail).tail).tail).tail).tail).tail).tail).hd.c0)
                have lx1 : ∀ n : Later w9, n.to.cell? ⟨w1.heap.size, 1, none⟩ = some (.slice p l c) := fun n => n.cell ((((((((((HR9.out).tail).tail).tail).tail).tail).tail).tail).tail).hd.c1)
                have lv0 := ((((((((HR9.out).tail).tail).tail).tail).tail).tail).tail).hd.laterCell 0 (by omega)
                rw [z0] at lv0
                have lv1 : ∀ n : Later w9, n.to.cell? (adr vh 0) = _ := lv0
                clear lv0
                refine wp_region_later (by kernel_rfl) (by kernel_rfl) ?_
                repeat (go_big_quiet_step ((first | (go_at_call 95; exact later_below (HC5.out _ (((((((((((HR9.out).tail).tail).tail).tail).tail).tail).tail).tail).tail).hd.later _))) | (go_at_call 94; exact later_same (HSG.out _ (((((((((HR9.out).tail).tail).tail).tail).tail).tail).tail).hd.later _))))))
                refine wpQuiet_nil ?_
                intro _ hlw
                obtain ⟨⟨w10, hb10⟩, hlw⟩ := hlw
                dsimp only at hlw
                subst hlw
                clear lx0 lx1 lv1
                go_wp2_with fail
                go_ret
                exact ⟨rfl, (HR9.out.quiet hb10).bel⟩
      | true =>
        have enb := HCN.out hcp HFB.out
        subst enb
        go_wp2_with (go_at_call 82; refine (sIsFieldPrime_c _ _).mono ?_; rw [HFB.out]; rintro e w' ⟨rfl, rfl⟩)
        refine (HD1.out _ (((((((HR7.out).tail).tail).tail).tail).tail).tail).hd).mono ?_
        rintro e w8 ⟨rfl, hN⟩
        have HR8 := hid (HR7.out.quiet hN)
        clear hN
        have k0 := (((((((((HR8.out).tail).tail).tail).tail).tail).tail).tail).tail).hd.c0
        have k1 := (((((((((HR8.out).tail).tail).tail).tail).tail).tail).tail).tail).hd.c1
        by_cases hz : H.length = 0
        · have q0 : ((H.length : Int) == 0) = true := by rw [beq_iff_eq]; omega
          have ech := HL0.out hz
          subst ech
          go_wp2_with fail
          refine (HC3.out _ ((((((((((HR8.out).tail).tail).tail).tail).tail).tail).tail).tail).tail).hd).mono ?_
          rintro e w8 ⟨rfl, hN⟩
          have HR8 := hid ((HR8.out).quiet hN)
          clear hN
          go_wp2_with fail
          go_ret
          exact ⟨rfl, HR8.out.bel⟩
        · have q0 : ((H.length : Int) == 0) = false := by rw [beq_eq_false_iff_ne]; omega
          have hrh := ((((((((HR8.out).tail).tail).tail).tail).tail).tail).tail).hd
          have HRH := hid hrh
          clear hrh
          go_wp2_with fail
          go_loop [11] (fun i => ∃ i' : Nat, i' ≤ H.length ∧ i = .int .i64 i') (fun i => H.length - (intOf i).toNat)
          case atStart => exact ⟨0, Nat.zero_le _, rfl⟩
          case round =>
            obtain ⟨i, hi, rfl⟩ := hrel
            by_cases hlt : i < H.length
            · have f1 := HRH.out.iix tI i hlt
              have f2 := HRH.out.intCell i hlt
              have f3 : decide (gi H i < 0) = false := decide_eq_false (by have := HL1.out i; omega)
              go_wp2_with fail
              go_round
              case rel => exact ⟨i + 1, by omega, by go_num⟩
              case measure => simp [intOf]; omega
            · have qi : decide ((i : Int) < (H.length : Int)) = false := decide_eq_false (by omega)
              have HE := hid (HL2.out (by omega))
              have HSG : Hid (∀ w1, Rd w1 vh (ints H) → Calls Try.prog 94 #[vh] w1 fun e w' => e = .returned (.int .i64 eu) ∧ w1 = w') := fun w1 h => by have := signed_c _ H w1 h HRG.out hl7; rwa [HE.out] at this
              obtain ⟨hA, hB⟩ := HL3.out (by omega)
              have i0 : ∀ w' : World, (Instr.indexAt 26 _ (.int .i64 0)).run Try.prog w' = .ok (.pointer (some (adr _ 0))) w' := HRH.out.iix tI 0 (by omega)
              by_cases h1 : 1 < H.length
              · obtain ⟨z0, z1⟩ := hA h1
                have q1 : decide ((1 : Int) < (H.length : Int)) = true := decide_eq_true (by omega)
                have i1 : ∀ w' : World, (Instr.indexAt 26 _ (.int .i64 1)).run Try.prog w' = .ok (.pointer (some (adr _ 1))) w' := HRH.out.iix tI 1 h1
                have HV0 : Hid (∀ w' : World, Rd w' vh (ints H) → w'.cell? (adr vh 0) = some (.int .i64 0)) := fun w' h => by have := h.intCell 0 (by omega); rwa [z0] at this
                obtain ⟨y, hy⟩ : ∃ y, pb - 1 = y := ⟨_, rfl⟩
                have hpb : -200 ≤ pb ∧ pb ≤ 200 := by have := HRG.out 1; omega
                rw [hy] at z1
                have HV1 : Hid (∀ w' : World, Rd w' vh (ints H) → w'.cell? (adr vh 1) = some (.int .i64 y)) := fun w' h => by have := h.intCell 1 h1; rwa [z1] at this
                obtain ⟨pb0, pb1⟩ := hpb
                have q2 : (y != y) = false := by simp
                have ew : IntKind.i64.wrap (pb - 1) = y := by rw [← hy]; exact IntWalk.i64_in _ (by omega)
                have v0 := HV0.out _ HRH.out
                have v1 := HV1.out _ HRH.out
                clear z1 hA hB hy
                go_wp2_with fail
                go_region_held3 (fun w' => w'.cell? ⟨w1.heap.size, 0, none⟩ = some (.int .i64 (n)) ∧ w'.cell? ⟨w1.heap.size, 1, none⟩ = some (.slice p l c) ∧ w'.cell? (adr vh 0) = some (.int .i64 0) ∧ w'.cell? (adr vh 1) = some (.int .i64 y)) (first | go_keep | exact ⟨k0', k1', v0', v1'⟩ | exact ⟨k0, k1, v0, v1⟩)
                  (first | (go_at_call 92; refine (HC4.out _ ((((((((((((HR8.out).drewN 1)).tail).tail).tail).tail).tail).tail).tail).tail).tail).hd).mono ?_; rintro e w9 ⟨rfl, hN⟩; have hA := (((HR8.out).drewN 1)).quiet hN; have k0' := (((((((((hA).tail).tail).tail).tail).tail).tail).tail).tail).hd.c0; have k1' := (((((((((hA).tail).tail).tail).tail).tail).tail).tail).tail).hd.c1; have v0' := HV0.out _ ((((((((hA).tail).tail).tail).tail).tail).tail).tail).hd; have v1' := HV1.out _ ((((((((hA).tail).tail).tail).tail).tail).tail).tail).hd; have HR9 := hid hA; clear hA hN))
                all_goals
                  go_wp2_with fail
                  have lx0 : ∀ n : Later w9, n.to.cell? ⟨w1.heap.size, 0, none⟩ = some (.int .i64 _) := fun n => n.cell ((((((((((HR9.out).tail).tail).tail).tail).tail).tail).tail).tail).hd.c0)
                  have lx1 : ∀ n : Later w9, n.to.cell? ⟨w1.heap.size, 1, none⟩ = some (.slice p l c) := fun n => n.cell ((((((((((HR9.out).tail).tail).tail).tail).tail).tail).tail).tail).hd.c1)
                  have lv0 := ((((((((HR9.out).tail).tail).tail).tail).tail).tail).tail).hd.laterCell 0 (by omega)
                  rw [z0] at lv0
                  have lv1 : ∀ n : Later w9, n.to.cell? (adr vh 0) = _ := lv0
                  clear lv0
                  refine wp_region_later (by kernel_rfl) (by kernel_rfl) ?_
                  repeat (go_big_quiet_step ((first | (go_at_call 95; exact later_below (HC5.out _ (((((((((((HR9.out).tail).tail).tail).tail).tail).tail).tail).tail).tail).hd.later _))) | (go_at_call 94; exact later_same (HSG.out _ (((((((((HR9.out).tail).tail).tail).tail).tail).tail).tail).hd.later _))))))
                  refine wpQuiet_nil ?_
                  intro _ hlw
                  obtain ⟨⟨w10, hb10⟩, hlw⟩ := hlw
                  dsimp only at hlw
                  subst hlw
                  clear lx0 lx1 lv1
                  go_wp2_with fail
                  go_ret
                  exact ⟨rfl, (HR9.out.quiet hb10).bel⟩
              · have q1 : decide ((1 : Int) < (H.length : Int)) = false := decide_eq_false (by omega)
                have z0 := hB (by omega)
                have HV0 : Hid (∀ w' : World, Rd w' vh (ints H) → w'.cell? (adr vh 0) = some (.int .i64 1)) := fun w' h => by have := h.intCell 0 (by omega); rwa [z0] at this
                have v0 := HV0.out _ HRH.out
                clear hA hB
                go_wp2_with fail
                go_quiet (fail)
                have hA := (HR8.out).drewN nq
                clear k0 k1 v0
                generalize World.drewN _ nq = w9 at *
                have k0 := (((((((((hA).tail).tail).tail).tail).tail).tail).tail).tail).hd.c0
                have k1 := (((((((((hA).tail).tail).tail).tail).tail).tail).tail).tail).hd.c1
                have v0 := HV0.out _ ((((((((hA).tail).tail).tail).tail).tail).tail).tail).hd
                have HR9 := hid hA
                clear hA
                go_wp2_with fail
                have lx0 : ∀ n : Later w9, n.to.cell? ⟨w1.heap.size, 0, none⟩ = some (.int .i64 _) := fun n => n.cell ((((((((((HR9.out).tail).tail).tail).tail).tail).tail).tail).tail).hd.c0)
                have lx1 : ∀ n : Later w9, n.to.cell? ⟨w1.heap.size, 1, none⟩ = some (.slice p l c) := fun n => n.cell ((((((((((HR9.out).tail).tail).tail).tail).tail).tail).tail).tail).hd.c1)
                have lv0 := ((((((((HR9.out).tail).tail).tail).tail).tail).tail).tail).hd.laterCell 0 (by omega)
                rw [z0] at lv0
                have lv1 : ∀ n : Later w9, n.to.cell? (adr vh 0) = _ := lv0
                clear lv0
                refine wp_region_later (by kernel_rfl) (by kernel_rfl) ?_
                repeat (go_big_quiet_step ((first | (go_at_call 95; exact later_below (HC5.out _ (((((((((((HR9.out).tail).tail).tail).tail).tail).tail).tail).tail).tail).hd.later _))) | (go_at_call 94; exact later_same (HSG.out _ (((((((((HR9.out).tail).tail).tail).tail).tail).tail).tail).hd.later _))))))
                refine wpQuiet_nil ?_
                intro _ hlw
                obtain ⟨⟨w10, hb10⟩, hlw⟩ := hlw
                dsimp only at hlw
                subst hlw
                clear lx0 lx1 lv1
                go_wp2_with fail
                go_ret
                exact ⟨rfl, (HR9.out.quiet hb10).bel⟩

theorem own : ownKnob Try.prog.godebug = none := by kernel_rfl
theorem laidOut : laidOutB Try.prog = true := by kernel_rfl

set_option maxRecDepth 100000 in
theorem lifted (os : Os) (started : os.Started) (H : Type) (enc : TypeId × Value → H) :
    ReturnsInHanded {} Try.checked os 7 .any (Rows.fnHolesSpec.pre6 enc Try.prog Try.f7 Rows.fnHolesRow.domain false) (Rows.fnHolesSpec.post enc Try.prog Try.f7 false true false false) := by
  refine returnsInHanded_of_change (C := Try.checked) own started (by kernel_rfl) Try.func7
    (ChangeSpec.witness6 (enc := enc) (C := Try.checked) false ⟨#[], #[.slice none 0 0], []⟩ 8 (by kernel_rfl) (by kernel_rfl) (by kernel_rfl) (by kernel_rfl)) ?_
  intro W base args ds gs before hval0 hW hcnd _
  have hval : ∀ (j : Nat) t v, Try.f7.params[j]? = some t → args[j]? = some v → Value.okWide Try.prog W .any base t v := hval0
  have hW' := hW
  obtain ⟨p, q, hA0, hV, rfl, hfz, hnd⟩ := hW
  have hA : DataW.TrodAll enc Try.prog W 0 (fun _ => true) true Try.f7.params.toList args.toList ds p := hA0
  rw [Try.params7] at hA hval
  obtain ⟨v0, vs0, d0, ds0, p0, q0, hargs, rfl, rfl, h0, r0⟩ := trodAll_cons hA
  obtain ⟨rfl, rfl, rfl⟩ := trodAll_nil r0
  obtain rfl : args = #[v0] := by cases args; simp_all
  obtain ⟨rfl, rfl⟩ := trodVars_none hV
  obtain ⟨s0, len0, cap0, rfl⟩ := okWide_slice Try.underlying22 (hval 0 22 v0 rfl rfl)
  have k0 := h0
  have lt0 : ∀ x ∈ p0, x.block < W.heap.size := by obtain ⟨m, hm⟩ := k0; exact DataW.trod_lt m _ _ _ hm
  obtain ⟨z0, g0⟩ : ∃ zs, Rd W (.slice s0 len0 cap0) (byts zs) := by
    obtain ⟨fuel, hf⟩ := h0
    rcases open_ints Try.underlying22 Try.underlying5 (by kernel_rfl) hf with ⟨hcs, _⟩ | ⟨x, l, c, zs, hcs, _, hl, hm, hz, _, hcell, _⟩
    · simp [Value.cells] at hcs
      obtain ⟨rfl, rfl, rfl⟩ := hcs
      exact ⟨[], .inl ⟨rfl, rfl⟩⟩
    · simp [Value.cells] at hcs
      obtain ⟨rfl, rfl, rfl⟩ := hcs
      exact ⟨_, rdB_of_open hl hm (by simp at hz; omega) hcell⟩
  clear hA0 hval0
  refine (law_c _ z0 W g0).mono fun e W' ⟨he, bel⟩ => ?_
  subst he
  exact ⟨_, rfl, _, _, _, [], _, [], hW', trodAll_mk1 (shut_bool Try.underlying4 _), (trodAll_cons_mk (Below.trod laidOut (by kernel_rfl) (of_decide_eq_true (by kernel_rfl)) k0 bel lt0) trodAll_mk0), rfl, bel.frame _, fun h => by cases h⟩

theorem over : Rows.fnHolesRow.holds Try.pinned (OpenSpec.ofChange Rows.fnHolesSpec) :=
  OpenClaim.holds_of_wide 7 Try.f7 rfl rfl rfl rfl rfl rfl rfl ⟨rfl, rfl, rfl, rfl, rfl⟩ rfl rfl rfl rfl rfl (by kernel_rfl) Try.func7 (by kernel_rfl)
    (of_decide_eq_true (by kernel_rfl)) (by unfold Func.isWrapper; first | (rw [if_pos (by decide +kernel)]; kernel_rfl) | (rw [if_neg (by decide +kernel)]; exact ⟨rfl, rfl⟩))
    (fun os started H enc _ => lifted os started H enc)

theorem proved : Rows.FnHolesSaid :=
  over
end Go.Proofs.Ytjaofbdfhcgmeaa.fnHoles
