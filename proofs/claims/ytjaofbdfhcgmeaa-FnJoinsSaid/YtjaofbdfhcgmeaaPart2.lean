/-
  Parts of a complex: the walks.
-/
import Derived.Test.YtjaofbdfhcgmeaaPart
namespace Go.Proofs.Ytjaofbdfhcgmeaa
open Go.RowKit

set_option maxHeartbeats 2000000 in
theorem UsedPoints_c (n : Int) (va : Value) (xs : List Int) (w : World) (ha : Rd w va (ints xs)) : Calls Try.prog 154 #[cx n va] w fun e w' => e = .returned (.int .i64 (usedB n xs)) ∧ Below w.heap.size w w' := by
  obtain ⟨p1, l1, k1, rfl⟩ := ha.form
  have hS := (St.start w).box n (.slice p1 l1 k1) 30
  have c0 := hS.hd.c0
  have c1 := hS.hd.c1
  have ha' := hS.old ha
  have HS := hid hS
  clear hS
  cases h1 : isC n xs with
  | false =>
    have E : Hid (usedB n xs = 0) := by show _ = _; simp [usedB, h1]
    unfold cx
    go_enter Try.func154, Try.ntmps154
    go_wp2_with fail
    refine (IsComplex_c n _ xs _ ha').mono ?_
    rw [h1]
    rintro e w1 ⟨rfl, hB⟩
    have HS1 := hid (HS.out.quiet hB)
    clear hB
    go_wp2_with fail
    go_ret
    exact ⟨by rw [E.out]; rfl, HS1.out.bel⟩
  | true =>
    have E : Hid (usedB n xs = usedS xs) := by show _ = _; simp [usedB, h1]
    have HR := hid (isC_iff.1 h1).rng
    unfold cx
    go_enter Try.func154, Try.ntmps154
    go_wp2_with fail
    refine (IsComplex_c n _ xs _ ha').mono ?_
    rw [h1]
    rintro e w1 ⟨rfl, hB⟩
    have HS1 := hid (HS.out.quiet hB)
    have d0 := HS1.out.hd.c0
    have d1 := HS1.out.hd.c1
    have ha2 := HS1.out.old ha
    have la := ha2.iln tI
    have ll := ha2.ile
    clear hB h1
    go_wp2_with fail
    go_loop [3, 12] (fun f i => ∃ (j : Nat), j ≤ xs.length ∧ i = .int .i64 j ∧ f = .int .i64 (usedTo xs j)) (fun _ i => xs.length - (intOf i).toNat)
    case atStart => exact ⟨0, by omega, rfl, rfl⟩
    case round =>
      obtain ⟨j, hj, rfl, rfl⟩ := hrel
      by_cases hlt : j < xs.length
      · have f1 := ha2.iix tI j hlt
        have f2 := ha2.intCell j hlt
        obtain ⟨u0, u1⟩ := usedTo_rng HR.out (j := j) (by omega)
        obtain ⟨g0, g1⟩ := gi_rng HR.out hlt
        have e1 : bits .or .i64 (usedTo xs j) (gi xs j) = usedTo xs (j + 1) := or_bits u0 u1 g0 g1
        go_wp2_with fail
        go_round
        case rel => exact ⟨j + 1, by omega, by go_num, rfl⟩
        case measure => simp [intOf]; omega
      · have ej : j = xs.length := by omega
        subst ej
        go_wp2_with fail
        go_ret
        exact ⟨by rw [E.out]; rfl, HS1.out.bel⟩

set_option maxHeartbeats 2000000 in
theorem sUsedPoints_c (n : Int) (va : Value) (xs : List Int) (w : World) (ha : Rd w va (ints xs)) : Calls Try.prog 155 #[cx n va] w fun e w' => e = .returned (.int .i64 (usedB n xs)) ∧ Below w.heap.size w w' := by
  obtain ⟨p1, l1, k1, rfl⟩ := ha.form
  have hS := (St.start w).box n (.slice p1 l1 k1) 30
  have HS := hid hS
  clear hS
  cases h1 : isC n xs with
  | false =>
    have E : Hid (usedB n xs = 0) := by show _ = _; simp [usedB, h1]
    unfold cx
    go_enter Try.func155, Try.ntmps155
    go_wp2_with fail
    go_loopw [3, 4] (fun f i wr => i = .int .i64 0 ∧ f = .int .i64 0 ∧ St w wr [⟨bx w.heap.size, 30, [.int .i64 n, .slice p1 l1 k1]⟩]) (fun _ i _ => xs.length - (intOf i).toNat)
    case atStart => exact ⟨rfl, rfl, HS.out⟩
    case round =>
      obtain ⟨rfl, rfl, hS⟩ := hrel
      have d0 := hS.hd.c0
      have d1 := hS.hd.c1
      have ha2 := hS.old ha
      have la := ha2.iln tI
      have ll := ha2.ile
      have HS1 := hid hS
      clear hS
      by_cases h0 : 0 < xs.length
      · have q0 : decide ((0 : Int) < (xs.length : Int)) = true := decide_eq_true (by omega)
        go_wp2_with fail
        refine (sIsComplex_c n _ xs _ ha2).mono ?_
        rw [h1]
        rintro e w2 ⟨rfl, hB⟩
        have HS2 := hid (HS1.out.quiet hB)
        clear hB
        go_wp2_with fail
        go_ret
        exact ⟨by rw [E.out]; rfl, HS2.out.bel⟩
      · have q0 : decide ((0 : Int) < (xs.length : Int)) = false := decide_eq_false (by omega)
        go_wp2_with fail
        go_ret
        exact ⟨by rw [E.out]; rfl, HS1.out.bel⟩
  | true =>
    have E : Hid (usedB n xs = usedS xs) := by show _ = _; simp [usedB, h1]
    have HR := hid (isC_iff.1 h1).rng
    unfold cx
    go_enter Try.func155, Try.ntmps155
    go_wp2_with fail
    go_loopw [3, 4] (fun f i wr => ∃ j : Nat, j ≤ xs.length ∧ i = .int .i64 j ∧ f = .int .i64 (usedTo xs j) ∧ St w wr [⟨bx w.heap.size, 30, [.int .i64 n, .slice p1 l1 k1]⟩]) (fun _ i _ => xs.length - (intOf i).toNat)
    case atStart => exact ⟨0, by omega, rfl, rfl, HS.out⟩
    case round =>
      obtain ⟨j, hj, rfl, rfl, hS⟩ := hrel
      have d0 := hS.hd.c0
      have d1 := hS.hd.c1
      have ha2 := hS.old ha
      have la := ha2.iln tI
      have ll := ha2.ile
      have HS1 := hid hS
      clear hS
      by_cases hlt : j < xs.length
      · have q0 : decide ((j : Int) < (xs.length : Int)) = true := decide_eq_true (by omega)
        go_wp2_with fail
        refine (sIsComplex_c n _ xs _ ha2).mono ?_
        rw [h1]
        rintro e w2 ⟨rfl, hB⟩
        have HS2 := hid (HS1.out.quiet hB)
        have i0 := HS2.out.hd.c0
        have i1 := HS2.out.hd.c1
        have ha3 := HS2.out.old ha
        have f1 := ha3.iix tI j hlt
        have f2 := ha3.intCell j hlt
        obtain ⟨u0, u1⟩ := usedTo_rng HR.out (j := j) (by omega)
        obtain ⟨g0, g1⟩ := gi_rng HR.out hlt
        have e1 : bits .or .i64 (usedTo xs j) (gi xs j) = usedTo xs (j + 1) := or_bits u0 u1 g0 g1
        clear hB
        go_wp2_with fail
        go_roundw
        case rel => exact ⟨j + 1, by omega, by go_num, rfl, HS2.out⟩
        case measure => simp [intOf]; omega
      · have ej : j = xs.length := by omega
        subst ej
        go_wp2_with fail
        go_ret
        exact ⟨by rw [E.out]; rfl, HS1.out.bel⟩

/-- 1 for true. -/
def bN : Value → Nat
  | .bool true => 1
  | _ => 0
theorem usedS_rng {n : Int} {xs : List Int} (h : isC n xs = true) : 0 ≤ usedS xs ∧ usedS xs < 64 := usedTo_rng (isC_iff.1 h).rng (Nat.le_refl _)
/-- k parts taken, l left. -/
def PartsAt (xs : List Int) (k : Nat) (l : Int) : Prop := (0 ≤ l ∧ l < 64) ∧ (k : Int) + l ≤ 64 ∧ ∀ i, Parts xs l i → Parts xs (usedS xs) (k + i)
theorem partsAt_next {xs : List Int} {k : Nat} {l P : Int} (h : PartsAt xs k l) (hl : 0 < l) (hP : IsComp xs (lowS l) P) : PartsAt xs (k + 1) (restS l P) := by
  have h1 := rest_rng h.1.1 h.1.2 hP.1.1.1 hP.1.1.2
  have h2 := h1.2.2.2 hl hP.1.2.1
  refine ⟨⟨h1.1, h1.2.1⟩, by have := h.2.1; omega, fun i hi => ?_⟩
  have := h.2.2 (i + 1) (.succ l P i hl hP hi)
  rwa [show k + (i + 1) = k + 1 + i by omega] at this
/-- Where a pass over the sets stands: P is what it began with, P' what it has. -/
def PassAt (xs : List Int) (p P P' : Int) (j : Nat) : Prop := Under xs p P' ∧ sub P P' = true ∧ ∀ i, i < j → meets (gi xs i) P = true → sub (gi xs i) P' = true

set_option maxHeartbeats 4000000 in
theorem CountParts_c (n : Int) (va : Value) (xs : List Int) (w : World) (ha : Rd w va (ints xs)) : Calls Try.prog 92 #[cx n va] w fun e w' => e = .returned (.int .i64 (partsB n xs)) ∧ Below w.heap.size w w' := by
  obtain ⟨p1, l1, k1, rfl⟩ := ha.form
  have hS := (St.start w).box n (.slice p1 l1 k1) 30
  have ha' := hS.old ha
  have HS := hid hS
  clear hS
  cases h1 : isC n xs with
  | false =>
    have E : Hid (partsB n xs = 0) := by show _ = _; simp [partsB, h1]
    unfold cx
    go_enter Try.func92, Try.ntmps92
    go_wp2_with fail
    refine (IsComplex_c n _ xs _ ha').mono ?_
    rw [h1]
    rintro e w1 ⟨rfl, hB⟩
    have HS1 := hid (HS.out.quiet hB)
    clear hB
    go_wp2_with fail
    go_ret
    exact ⟨by rw [E.out]; rfl, HS1.out.bel⟩
  | true =>
    have E : Hid (partsB n xs = partsN xs) := by show _ = _; simp [partsB, h1]
    have EU : Hid (usedB n xs = usedS xs) := by show _ = _; simp [usedB, h1]
    have HR := hid (isC_iff.1 h1).rng
    have HU := hid (usedS_rng h1)
    unfold cx
    go_enter Try.func92, Try.ntmps92
    go_wp2_with fail
    refine (IsComplex_c n _ xs _ ha').mono ?_
    rw [h1]
    rintro e w1 ⟨rfl, hB⟩
    have HS1 := hid (HS.out.quiet hB)
    have d0 := HS1.out.hd.c0
    have d1 := HS1.out.hd.c1
    have ha2 := HS1.out.old ha
    clear hB h1
    go_wp2_with fail
    refine (UsedPoints_c n _ xs _ ha2).mono ?_
    rw [EU.out]
    rintro e w2 ⟨rfl, hB⟩
    have HS2 := hid (HS1.out.quiet hB)
    have f0 := HS2.out.hd.c0
    have f1 := HS2.out.hd.c1
    have ha3 := HS2.out.old ha
    have la := ha3.iln tI
    have ll := ha3.ile
    clear hB d0 d1
    go_wp2_with fail
    go_loop [3, 4] (fun k l => ∃ (kk : Nat) (L : Int), k = .int .i64 (kk : Int) ∧ l = .int .i64 L ∧ Hid (PartsAt xs kk L)) (fun _ l => (intOf l).toNat)
    case atStart => exact ⟨0, usedS xs, rfl, rfl, HU.out, by have := HU.out; omega, fun i hi => by rwa [Nat.zero_add]⟩
    case round =>
      obtain ⟨kk, L, rfl, rfl, hP⟩ := hrel
      obtain ⟨⟨L0, L1⟩, L2, _⟩ := hP.out
      by_cases hz : L = 0
      · subst hz
        have e := partsN_eq (hP.out.2.2 0 .zero)
        have E3 : Hid (partsN xs = (kk : Int)) := by show _ = _; rw [e]; omega
        clear e
        go_wp2_with fail
        go_ret
        exact ⟨by rw [E.out, E3.out]; rfl, HS2.out.bel⟩
      · have hz' : (L != 0) = true := by simp [hz]
        have hpos : 0 < L := by omega
        obtain ⟨q0, q1⟩ := low_rng hpos L1
        have HU0 := hid (under_self (xs := xs) (p := lowS L) (by omega) q1)
        have eL : bits .and .i64 L (-L) = lowS L := by rw [lowS, IntWalk.wrap64_in (-L) (by omega)]
        clear hz
        go_wp2_with fail
        go_loop [5, 6] (fun p a => ∃ (P : Int) (A : Bool), p = .int .i64 P ∧ a = .bool A ∧ Hid (Under xs (lowS L) P) ∧ Hid (A = false → Closed xs P)) (fun p a => 2 * (64 - (intOf p).toNat) + bN a)
        case atStart => exact ⟨lowS L, true, rfl, rfl, HU0, fun h => by cases h⟩
        case round =>
          obtain ⟨P, A, rfl, rfl, hU, hC⟩ := hrel
          obtain ⟨P0, P1⟩ := hU.out.1
          cases A with
          | true =>
            go_wp2_with fail
            go_loop [5, 6, 24] (fun p a i => ∃ (P' : Int) (A : Bool) (j : Nat), j ≤ xs.length ∧ p = .int .i64 P' ∧ a = .bool A ∧ i = .int .i64 j ∧ Hid (PassAt xs (lowS L) P P' j) ∧ Hid (A = true → P < P') ∧ Hid (A = false → P' = P)) (fun _ _ i => xs.length - (intOf i).toNat)
            case atStart => exact ⟨P, false, 0, by omega, rfl, rfl, rfl, ⟨hU.out, sub_refl P, fun i h => by omega⟩, (fun h => by cases h), fun _ => rfl⟩
            case round =>
              obtain ⟨P', A, j, hj, rfl, rfl, rfl, hA, hT, hF⟩ := hrel
              obtain ⟨R0, R1⟩ := hA.out.1.1
              by_cases hlt : j < xs.length
              · have g1 := ha3.iix tI j hlt
                have g2 := ha3.intCell j hlt
                obtain ⟨s0, s1⟩ := gi_rng HR.out hlt
                have am := and_meets s0 s1 R0 R1
                have an := andNot_sub s0 s1 R0 R1
                have ao := or_bits R0 R1 s0 s1
                have ll' := sub_le P0 P1 R0 R1 hA.out.2.1
                cases hm : meets (gi xs j) P' with
                | false =>
                  rw [hm] at am
                  have am' : (bits .and .i64 (gi xs j) P' != 0) = false := by simpa [bne] using am
                  have N2 : Hid (PassAt xs (lowS L) P P' (j + 1)) := ⟨hA.out.1, hA.out.2.1, fun i hi hmi => by
                    by_cases e : i = j
                    · subst e
                      have := meets_mono hmi hA.out.2.1
                      rw [hm] at this; cases this
                    · exact hA.out.2.2 i (by omega) hmi⟩
                  clear hm am an ao
                  go_wp2_with fail
                  go_round
                  case rel => exact ⟨P', A, j + 1, by omega, rfl, rfl, by go_num, N2, hT, hF⟩
                  case measure => simp [intOf]; omega
                | true =>
                  rw [hm] at am
                  have am' : (bits .and .i64 (gi xs j) P' != 0) = true := by simpa [bne] using am
                  cases hs : sub (gi xs j) P' with
                  | true =>
                    rw [hs] at an
                    have an' : (bits .andNot .i64 (gi xs j) P' != 0) = false := by simpa [bne] using an
                    have N2 : Hid (PassAt xs (lowS L) P P' (j + 1)) := ⟨hA.out.1, hA.out.2.1, fun i hi hmi => by
                      by_cases e : i = j
                      · subst e; exact hs
                      · exact hA.out.2.2 i (by omega) hmi⟩
                    clear hm hs am an ao
                    go_wp2_with fail
                    go_round
                    case rel => exact ⟨P', A, j + 1, by omega, rfl, rfl, by go_num, N2, hT, hF⟩
                    case measure => simp [intOf]; omega
                  | false =>
                    rw [hs] at an
                    have an' : (bits .andNot .i64 (gi xs j) P' != 0) = true := by simpa [bne] using an
                    have hu := under_or hA.out.1 (sub_refl P') (gi_mem hlt) s0 s1 hm
                    have hlt2 : P' < orS P' (gi xs j) := by
                      have h1 := sub_le R0 R1 hu.1.1 hu.1.2 (or_left P' (gi xs j))
                      have h2 : P' ≠ orS P' (gi xs j) := fun e => by
                        have := or_right P' (gi xs j)
                        rw [← e, hs] at this; cases this
                      omega
                    have N2 : Hid (PassAt xs (lowS L) P (orS P' (gi xs j)) (j + 1)) := ⟨hu, sub_trans hA.out.2.1 (or_left _ _), fun i hi hmi => by
                      by_cases e : i = j
                      · subst e; exact or_right _ _
                      · exact sub_trans (hA.out.2.2 i (by omega) hmi) (or_left _ _)⟩
                    have N3 : Hid (P < orS P' (gi xs j)) := by show _ < _; omega
                    clear hm hs am an hu hlt2
                    go_wp2_with fail
                    go_round
                    case rel => exact ⟨orS P' (gi xs j), true, j + 1, by omega, rfl, rfl, by go_num, N2, fun _ => N3.out, fun h => by cases h⟩
                    case measure => simp [intOf]; omega
              · have NC : Hid (A = false → Closed xs P') := fun h s hs hms => by
                  obtain ⟨i, hi, rfl⟩ := mem_gi hs
                  have e := hF.out h
                  rw [e] at hms
                  exact hA.out.2.2 i (by omega) hms
                have NU := hid hA.out.1
                have ll' := sub_le P0 P1 R0 R1 hA.out.2.1
                have NM : Hid (2 * (64 - P'.toNat) + bN (.bool A) < 2 * (64 - P.toNat) + 1) := by
                  cases A with
                  | true => have := hT.out rfl; show 2 * (64 - P'.toNat) + 1 < 2 * (64 - P.toNat) + 1; omega
                  | false => show 2 * (64 - P'.toNat) + 0 < 2 * (64 - P.toNat) + 1; omega
                go_wp2_with fail
                go_round
                case rel => exact ⟨P', A, rfl, rfl, NU, NC⟩
                case measure => exact NM.out
          | false =>
            have hcomp : IsComp xs (lowS L) P := ⟨hU.out, hC.out rfl⟩
            have N2 := hid (partsAt_next hP.out hpos hcomp)
            have hr := rest_rng L0 L1 P0 P1
            have hr2 := hr.2.2.2 hpos hU.out.2.1
            have e3 : bits .andNot .i64 L P = restS L P := rfl
            have hr0 := hr.1
            clear hcomp hr
            go_wp2_with fail
            go_round
            case rel => exact ⟨kk + 1, restS L P, by go_num, rfl, N2⟩
            case measure => simp [intOf]; omega

set_option maxHeartbeats 4000000 in
theorem sCountParts_c (n : Int) (va : Value) (xs : List Int) (w : World) (ha : Rd w va (ints xs)) : Calls Try.prog 93 #[cx n va] w fun e w' => e = .returned (.int .i64 (partsB n xs)) ∧ Below w.heap.size w w' := by
  obtain ⟨p1, l1, k1, rfl⟩ := ha.form
  have hS := (St.start w).box n (.slice p1 l1 k1) 30
  have ha' := hS.old ha
  have HS := hid hS
  clear hS
  cases h1 : isC n xs with
  | false =>
    have E : Hid (partsB n xs = 0) := by show _ = _; simp [partsB, h1]
    have EU : Hid (usedB n xs = 0) := by show _ = _; simp [usedB, h1]
    unfold cx
    go_enter Try.func93, Try.ntmps93
    go_wp2_with fail
    refine (sUsedPoints_c n _ xs _ ha').mono ?_
    rw [EU.out]
    rintro e w1 ⟨rfl, hB⟩
    have HS1 := hid (HS.out.quiet hB)
    clear hB
    go_wp2_with fail
    go_loop [3, 4] (fun k l => k = .int .i64 0 ∧ l = .int .i64 0) (fun _ l => (intOf l).toNat)
    case atStart => exact ⟨rfl, rfl⟩
    case round =>
      obtain ⟨rfl, rfl⟩ := hrel
      go_wp2_with fail
      go_ret
      exact ⟨by rw [E.out]; rfl, HS1.out.bel⟩
  | true =>
    have E : Hid (partsB n xs = partsN xs) := by show _ = _; simp [partsB, h1]
    have EU : Hid (usedB n xs = usedS xs) := by show _ = _; simp [usedB, h1]
    have HR := hid (isC_iff.1 h1).rng
    have HU := hid (usedS_rng h1)
    unfold cx
    go_enter Try.func93, Try.ntmps93
    go_wp2_with fail
    refine (sUsedPoints_c n _ xs _ ha').mono ?_
    rw [EU.out]
    rintro e w2 ⟨rfl, hB⟩
    have HS2 := hid (HS.out.quiet hB)
    have f0 := HS2.out.hd.c0
    have f1 := HS2.out.hd.c1
    have ha3 := HS2.out.old ha
    have la := ha3.iln tI
    have ll := ha3.ile
    clear hB h1
    go_wp2_with fail
    go_loop [3, 4] (fun k l => ∃ (kk : Nat) (L : Int), k = .int .i64 (kk : Int) ∧ l = .int .i64 L ∧ Hid (PartsAt xs kk L)) (fun _ l => (intOf l).toNat)
    case atStart => exact ⟨0, usedS xs, rfl, rfl, HU.out, by have := HU.out; omega, fun i hi => by rwa [Nat.zero_add]⟩
    case round =>
      obtain ⟨kk, L, rfl, rfl, hP⟩ := hrel
      obtain ⟨⟨L0, L1⟩, L2, _⟩ := hP.out
      by_cases hz : L = 0
      · subst hz
        have e := partsN_eq (hP.out.2.2 0 .zero)
        have E3 : Hid (partsN xs = (kk : Int)) := by show _ = _; rw [e]; omega
        clear e
        go_wp2_with fail
        go_ret
        exact ⟨by rw [E.out, E3.out]; rfl, HS2.out.bel⟩
      · have hpos : 0 < L := by omega
        obtain ⟨q0, q1⟩ := low_rng hpos L1
        have HU0 := hid (under_self (xs := xs) (p := lowS L) (by omega) q1)
        have eL : bits .and .i64 L (-L) = lowS L := by rw [lowS, IntWalk.wrap64_in (-L) (by omega)]
        clear hz
        go_wp2_with fail
        go_loop [5] (fun p => ∃ (P : Int), p = .int .i64 P ∧ Hid (Under xs (lowS L) P)) (fun p => 64 - (intOf p).toNat)
        case atStart => exact ⟨lowS L, rfl, HU0⟩
        case round =>
          obtain ⟨P, rfl, hU⟩ := hrel
          obtain ⟨P0, P1⟩ := hU.out.1
          go_wp2_with fail
          go_loop [6, 7] (fun p i => ∃ (N : Int) (j : Nat), j ≤ xs.length ∧ p = .int .i64 N ∧ i = .int .i64 j ∧ Hid (PassAt xs (lowS L) P N j)) (fun _ i => xs.length - (intOf i).toNat)
          case atStart => exact ⟨P, 0, by omega, rfl, rfl, ⟨hU.out, sub_refl P, fun i h => by omega⟩⟩
          case round =>
            obtain ⟨N, j, hj, rfl, rfl, hA⟩ := hrel
            obtain ⟨R0, R1⟩ := hA.out.1.1
            by_cases hlt : j < xs.length
            · have g1 := ha3.iix tI j hlt
              have g2 := ha3.intCell j hlt
              obtain ⟨s0, s1⟩ := gi_rng HR.out hlt
              have am := and_meets s0 s1 P0 P1
              have ao := or_bits R0 R1 s0 s1
              cases hm : meets (gi xs j) P with
              | false =>
                rw [hm] at am
                have am' : (bits .and .i64 (gi xs j) P != 0) = false := by simpa [bne] using am
                have N2 : Hid (PassAt xs (lowS L) P N (j + 1)) := ⟨hA.out.1, hA.out.2.1, fun i hi hmi => by
                  by_cases e : i = j
                  · subst e; rw [hm] at hmi; cases hmi
                  · exact hA.out.2.2 i (by omega) hmi⟩
                clear hm am ao
                go_wp2_with fail
                go_round
                case rel => exact ⟨N, j + 1, by omega, rfl, by go_num, N2⟩
                case measure => simp [intOf]; omega
              | true =>
                rw [hm] at am
                have am' : (bits .and .i64 (gi xs j) P != 0) = true := by simpa [bne] using am
                have hu := under_or hA.out.1 hA.out.2.1 (gi_mem hlt) s0 s1 hm
                have N2 : Hid (PassAt xs (lowS L) P (orS N (gi xs j)) (j + 1)) := ⟨hu, sub_trans hA.out.2.1 (or_left _ _), fun i hi hmi => by
                  by_cases e : i = j
                  · subst e; exact or_right _ _
                  · exact sub_trans (hA.out.2.2 i (by omega) hmi) (or_left _ _)⟩
                clear hm am hu
                go_wp2_with fail
                go_round
                case rel => exact ⟨orS N (gi xs j), j + 1, by omega, rfl, by go_num, N2⟩
                case measure => simp [intOf]; omega
            · by_cases he : N = P
              · have hcomp : IsComp xs (lowS L) P := ⟨hU.out, fun s hs hms => by
                  obtain ⟨i, hi, rfl⟩ := mem_gi hs
                  have := hA.out.2.2 i (by omega) hms
                  rwa [he] at this⟩
                have N2 := hid (partsAt_next hP.out hpos hcomp)
                have hr := rest_rng L0 L1 P0 P1
                have hr2 := hr.2.2.2 hpos hU.out.2.1
                have e3 : L - bits .and .i64 L P = restS L P := hr.2.2.1.symm
                have hr0 := hr.1
                have dq : (N == P) = true := by simp [he]
                have u1 := IntWalk.wrap64_in (restS L P) (by omega)
                clear hcomp hr he
                go_wp2_with fail
                go_round
                case rel => exact ⟨kk + 1, restS L P, by go_num, by go_num, N2⟩
                case measure => simp [intOf]; omega
              · have dq : (N == P) = false := by simp [he]
                have ll' := sub_le P0 P1 R0 R1 hA.out.2.1
                have NU := hid hA.out.1
                have hlt3 : P < N := by omega
                clear he
                go_wp2_with fail
                go_round
                case rel => exact ⟨N, rfl, NU⟩
                case measure => simp [intOf]; omega

end Go.Proofs.Ytjaofbdfhcgmeaa
