/-
  Holes of a complex: the functions.
-/
import Derived.Test.YtjaofbdfhcgmeaaRed5
import Derived.Test.YtjaofbdfhcgmeaaHoles
namespace Go.Proofs.Ytjaofbdfhcgmeaa
open Go.RowKit

theorem holesB_len (n : Int) (xs : List Int) (p : Int) : (holesB n xs p).length ≤ 7 := by
  unfold holesB
  split
  · rw [holeTo_len]; exact sizesN_le _
  · simp
theorem holesB_rng (n : Int) (xs : List Int) (p : Int) (j : Nat) : -128 ≤ gi (holesB n xs p) j ∧ gi (holesB n xs p) j ≤ 64 := by
  unfold holesB
  split
  · by_cases h : j < sizesN (dn (mem xs))
    · rw [holeTo_gi h]; exact holeAt_rng _ _ _
    · rw [gi_out (by rw [holeTo_len]; omega)]; omega
  · simp [gi]
theorem fvB_gi {n : Int} {xs : List Int} (h : isC n xs = true) {j : Nat} (hj : j < sizesN (dn (mem xs))) : gi (fvB n xs) j = ((rowTo (dn (mem xs)) (j : Int) 64).length : Int) := by
  rw [fvB, if_pos h, cntS, lens_gi (by simpa [bySz] using hj), bySz, bySzTo_get hj]
theorem no_facets : sizesN (dn (mem ([] : List Int))) = 0 := by
  have h := topN_le (P := dn (mem ([] : List Int))) (B := -1) (by omega) (s := 64) fun t _ hp => by rw [dn_none] at hp; cases hp
  have := sizesN_eq (dn (mem ([] : List Int)))
  omega
theorem holesB_f {n : Int} {xs : List Int} {p : Int} (h : ¬ (isC n xs = true ∧ primeB p = true)) : holesB n xs p = [] := if_neg h

set_option maxHeartbeats 4000000 in
theorem HolesMod_c (n : Int) (va : Value) (xs : List Int) (p : Int) (w : World) (ha : Rd w va (ints xs)) : Calls Try.prog 84 #[cx n va, .int .i64 p] w fun e w' => ∃ v, e = .returned v ∧ St w w' [⟨v, 3, ints (holesB n xs p)⟩] := by
  obtain ⟨p1, l1, k1, rfl⟩ := ha.form
  have hS := (St.start w).box n (.slice p1 l1 k1) 30
  have ha' := hS.old ha
  have HS := hid hS
  clear hS
  cases h1 : isC n xs with
  | false =>
    have E := hid (holesB_f (n := n) (xs := xs) (p := p) (by rw [h1]; simp))
    unfold cx
    go_enter Try.func84, Try.ntmps84
    go_wp2_with fail
    refine (IsComplex_c n _ xs _ ha').mono ?_
    rw [h1]
    rintro e w1 ⟨rfl, hB⟩
    have HS1 := hid (HS.out.quiet hB)
    clear hB
    go_wp2_with fail
    go_ret
    exact ⟨_, rfl, by rw [E.out]; exact HS1.out.tail.nilRow _⟩
  | true =>
    have HR := hid (isC_iff.1 h1).rng
    by_cases h0 : xs.length = 0
    · have E : Hid (holesB n xs p = []) := by
        show _ = _
        have hx : xs = [] := List.eq_nil_of_length_eq_zero h0
        rw [holesB]
        split
        · rw [hx, no_facets]; rfl
        · rfl
      have q0 : ((xs.length : Int) == 0) = true := by simp [h0]
      clear h0
      unfold cx
      go_enter Try.func84, Try.ntmps84
      go_wp2_with fail
      refine (IsComplex_c n _ xs _ ha').mono ?_
      rw [h1]
      rintro e w1 ⟨rfl, hB⟩
      have HS1 := hid (HS.out.quiet hB)
      have d0 := HS1.out.hd.c0
      have d1 := HS1.out.hd.c1
      have la := (HS1.out.old ha).iln tI
      clear hB h1
      go_wp2_with fail
      go_ret
      exact ⟨_, rfl, by rw [E.out]; exact HS1.out.tail.nilRow _⟩
    · have q0 : ((xs.length : Int) == 0) = false := by rw [beq_eq_false_iff_ne]; omega
      clear h0
      cases hq : primeB p with
      | false =>
        have E := hid (holesB_f (n := n) (xs := xs) (p := p) (by rw [hq]; simp))
        unfold cx
        go_enter Try.func84, Try.ntmps84
        go_wp2_with fail
        refine (IsComplex_c n _ xs _ ha').mono ?_
        rw [h1]
        rintro e w1 ⟨rfl, hB⟩
        have HS1 := hid (HS.out.quiet hB)
        have d0 := HS1.out.hd.c0
        have d1 := HS1.out.hd.c1
        have la := (HS1.out.old ha).iln tI
        clear hB h1
        go_wp2_with (go_at_call 81; refine (IsFieldPrime_c _ _).mono ?_; rw [hq]; rintro e w' ⟨rfl, rfl⟩)
        go_ret
        exact ⟨_, rfl, by rw [E.out]; exact HS1.out.tail.nilRow _⟩
      | true =>
        have E : Hid (holesB n xs p = holeTo (dn (mem xs)) p (sizesN (dn (mem xs)))) := if_pos ⟨h1, hq⟩
        have HP : Hid (PrimeP p) := primeB_iff.1 hq
        unfold cx
        go_enter Try.func84, Try.ntmps84
        go_wp2_with fail
        refine (IsComplex_c n _ xs _ ha').mono ?_
        rw [h1]
        rintro e w1 ⟨rfl, hB⟩
        have HS1 := hid (HS.out.quiet hB)
        have d0 := HS1.out.hd.c0
        have d1 := HS1.out.hd.c1
        have ha1 := HS1.out.old ha
        have la := ha1.iln tI
        clear hB h1
        go_wp2_with (go_at_call 81; refine (IsFieldPrime_c _ _).mono ?_; rw [hq]; rintro e w' ⟨rfl, rfl⟩)
        refine (facesIn_c n _ xs _ ha1 HR.out).mono ?_
        rintro e w2 ⟨rfl, hB⟩
        have HS2 := hid (HS1.out.quiet hB)
        clear hB
        go_wp2_with fail
        refine (holesIn_c _ _ _ HP.out).mono ?_
        rintro e w3 ⟨v, rfl, hS3⟩
        have HS3 := hid (HS2.out.call1 hS3)
        clear hS3
        go_wp2_with fail
        go_ret
        exact ⟨_, rfl, by rw [E.out]; exact HS3.out.sub (.cons_cons _ (List.nil_sublist _))⟩

set_option maxHeartbeats 4000000 in
theorem sHolesMod_c (n : Int) (va : Value) (xs : List Int) (p : Int) (w : World) (ha : Rd w va (ints xs)) : Calls Try.prog 41 #[cx n va, .int .i64 p] w fun e w' => ∃ v, e = .returned v ∧ St w w' [⟨v, 3, ints (holesB n xs p)⟩] := by
  obtain ⟨p1, l1, k1, rfl⟩ := ha.form
  have hS := ((St.start w).box n (.slice p1 l1 k1) 30).newAt #[] 3 (by simp) (H := w.heap.size + 1) (by simp)
  have ha' := hS.old ha
  have HS := hid hS
  have hf7 := fvB_len n xs
  clear hS
  cases hq : primeB p with
  | false =>
    have E := hid (holesB_f (n := n) (xs := xs) (p := p) (by rw [hq]; simp))
    unfold cx
    go_enter Try.func41, Try.ntmps41
    go_wp2_with fail
    refine (sFaceCounts_c n _ xs _ ha').mono ?_
    rintro e w1 ⟨uf, rfl, hS1⟩
    have HS1 := hid (HS.out.call1 hS1)
    clear hS1
    go_wp2_with (go_at_call 82; refine (sIsFieldPrime_c _ _).mono ?_; rw [hq]; rintro e w' ⟨rfl, rfl⟩)
    go_ret
    exact ⟨_, rfl, by rw [E.out]; exact HS1.out.tail.sub (.cons_cons _ (List.nil_sublist _))⟩
  | true =>
    cases h1 : isC n xs with
    | false =>
      have E := hid (holesB_f (n := n) (xs := xs) (p := p) (by rw [h1]; simp))
      have EF : Hid (fvB n xs = []) := by show _ = _; simp [fvB, h1]
      unfold cx
      go_enter Try.func41, Try.ntmps41
      go_wp2_with fail
      refine (sFaceCounts_c n _ xs _ ha').mono ?_
      rw [EF.out]
      rintro e w1 ⟨uf, rfl, hS1⟩
      have HS1 := hid (HS.out.call1 hS1)
      have lf := hS1.hd.iln tI
      clear hS1
      go_wp2_with (go_at_call 82; refine (sIsFieldPrime_c _ _).mono ?_; rw [hq]; rintro e w' ⟨rfl, rfl⟩)
      go_loop [5, 8] (fun o i => o = .slice (some ⟨w.heap.size + 1, 0, none⟩) 0 0 ∧ i = .int .i64 0) (fun _ _ => 0)
      case atStart => exact ⟨rfl, rfl⟩
      case round =>
        obtain ⟨rfl, rfl⟩ := hrel
        go_wp2_with fail
        go_ret
        exact ⟨_, rfl, by rw [E.out]; exact HS1.out.tail.sub (.cons_cons _ (List.nil_sublist _))⟩
    | true =>
      have E : Hid (holesB n xs p = holeTo (dn (mem xs)) p (sizesN (dn (mem xs)))) := if_pos ⟨h1, hq⟩
      have HP : Hid (PrimeP p) := primeB_iff.1 hq
      obtain ⟨D, hD⟩ : ∃ D, D = sizesN (dn (mem xs)) := ⟨_, rfl⟩
      have HD := hid hD
      have hfl : (fvB n xs).length = D := by rw [fvB, if_pos h1, cntS_len, hD]
      have HFG : Hid (∀ j, j < D → gi (fvB n xs) j = ((rowTo (dn (mem xs)) (j : Int) 64).length : Int)) := fun j hj => fvB_gi h1 (by omega)
      have HFO : Hid (∀ k, fosB n xs k = rowTo (dn (mem xs)) k 64) := fun k => by simp [fosB, h1]
      have HLO := hid (fosB_len n xs)
      unfold cx
      go_enter Try.func41, Try.ntmps41
      go_wp2_with fail
      refine (sFaceCounts_c n _ xs _ ha').mono ?_
      generalize fvB n xs = f at *
      generalize dn (mem xs) = P at *
      clear hD h1
      rintro e w1 ⟨uf, rfl, hS1⟩
      have HS1 := hid ((HS.out.call1 hS1).swap)
      have lf := hS1.hd.iln tI
      rw [hfl] at lf
      clear hS1
      go_wp2_with (go_at_call 82; refine (sIsFieldPrime_c _ _).mono ?_; rw [hq]; rintro e w' ⟨rfl, rfl⟩)
      have E0 : Hid (hRk P p 0 = 0) := hRk_zero P p
      go_loopw [5, 7, 8] (fun o b i wr => ∃ (k : Nat) (u : Value), k ≤ D ∧ i = .int .i64 k ∧ b = .int .i64 (hRk P p k) ∧ o = u ∧ St w wr [⟨u, 3, ints (holeTo P p k)⟩, ⟨uf, 3, ints f⟩, ⟨bx w.heap.size, 30, [.int .i64 n, .slice p1 l1 k1]⟩]) (fun _ _ i _ => D - (intOf i).toNat)
      case atStart => exact ⟨0, _, by omega, rfl, by rw [E0.out], rfl, HS1.out⟩
      case round =>
        obtain ⟨k, u, hk, rfl, rfl, ho, hS⟩ := hrel
        have ho' := ho.symm
        subst ho'
        have HS2 := hid hS
        have d0 := hS.hd3.c0
        have d1 := hS.hd3.c1
        have ha2 := hS.old ha
        by_cases hlt : k < D
        · have q0 : decide ((k : Int) < (D : Int)) = true := decide_eq_true (by omega)
          have r0 := hRk_rng P p k
          have r1 := hRk_rng P p (k + 1)
          have hlen : (rowTo P (k : Int) 64).length ≤ 64 := rowTo_len _ _ _
          have E2 := hid (holeTo_succ P p k)
          have hHl := holeTo_len P p k
          have EA : Hid (holeAt P p k = ((rowTo P (k : Int) 64).length : Int) - hRk P p k - hRk P p (k + 1)) := rfl
          by_cases hlt2 : k + 1 < D
          · have q1 : decide ((k : Int) + 1 < (D : Int)) = true := decide_eq_true (by omega)
            have ER : Hid (rankR p (bordM (fosB n xs ((k : Int) + 1 - 1)) (fosB n xs ((k : Int) + 1))) = hRk P p (k + 1)) := by
              show _ = _
              rw [HFO.out, HFO.out, hRk, if_pos ⟨by omega, by rw [← HD.out]; exact hlt2⟩]
              rfl
            have HEv := hid (bordM_even (fosB n xs ((k : Int) + 1 - 1)) (fosB n xs ((k : Int) + 1)))
            have hb1 := HLO.out ((k : Int) + 1 - 1)
            have hb2 := HLO.out ((k : Int) + 1)
            have hbl := bordM_len (fosB n xs ((k : Int) + 1 - 1)) (fosB n xs ((k : Int) + 1))
            clear hS
            go_wp2_with fail
            refine (l13Border_c n _ xs ((k : Int) + 1) _ ha2 (by omega) (by omega)).mono ?_
            rintro e w3 ⟨b, bs, rfl, hl3, hS3⟩
            have HLb := hid hl3
            have HSb := hid (HS2.out.callM hS3)
            clear hl3 hS3
            go_wp2_with fail
            refine (l13Rank_c _ _ _ _ p _ (HSb.out.rdM HLb.out) HP.out HEv.out (by omega) (by omega)).mono ?_
            rw [ER.out]
            rintro e w4 ⟨rfl, hB4⟩
            have hSr := (HSb.out.quiet hB4).dropRows
            have f1 := hSr.hd2.iix tI k (by omega)
            have f2 := hSr.hd2.intCell k (by omega)
            rw [HFG.out k hlt] at f2
            have HSr := hid hSr
            clear hB4 hSr hb1 hb2 hbl
            go_wp2_with (at_builtin; refine wpList_push rfl _ _ rfl tI HSr.out.own (.int .i64 (((rowTo P (k : Int) 64).length : Int) - hRk P p k - hRk P p (k + 1))) rfl (by simp; omega) rfl rfl ?_)
            intro v2 w2 hO2 hb2
            go_wp2_with fail
            go_roundw
            case rel => exact ⟨k + 1, v2, by omega, by go_num, rfl, rfl, by rw [E2.out, ints_append]; exact HSr.out.mut hO2 hb2⟩
            case measure => simp [intOf]; omega
          · have q1 : decide ((k : Int) + 1 < (D : Int)) = false := decide_eq_false (by omega)
            have EZ : Hid (hRk P p (k + 1) = 0) := hRk_out p (by rw [← HD.out]; omega)
            have f1 := hS.hd2.iix tI k (by omega)
            have f2 := hS.hd2.intCell k (by omega)
            rw [HFG.out k hlt] at f2
            clear hS r1
            go_wp2_with (at_builtin; refine wpList_push rfl _ _ rfl tI HS2.out.own (.int .i64 (((rowTo P (k : Int) 64).length : Int) - hRk P p k)) rfl (by simp; omega) rfl rfl ?_)
            intro v2 w2 hO2 hb2
            go_wp2_with fail
            go_roundw
            case rel =>
              have h9 := HS2.out.mut hO2 hb2
              rw [ints_snoc, show ((rowTo P (k : Int) 64).length : Int) - hRk P p k = holeAt P p k by rw [EA.out, EZ.out]; omega, ← E2.out] at h9
              exact ⟨k + 1, v2, by omega, by go_num, by rw [EZ.out], rfl, h9⟩
            case measure => simp [intOf]; omega
        · have ek : Hid (k = sizesN P) := by show _ = _; rw [← HD.out]; omega
          have q0 : decide ((k : Int) < (D : Int)) = false := decide_eq_false (by omega)
          clear hS
          go_wp2_with fail
          go_ret
          exact ⟨_, rfl, by rw [E.out, ← ek.out]; exact HS2.out.sub (.cons_cons _ (List.nil_sublist _))⟩

/-! ### Their sum -/

def sumTo (L : List Int) : Nat → Int
  | 0 => 0
  | j + 1 => sumTo L j + gi L j
theorem sumTo_rng {L : List Int} (h : ∀ j, -128 ≤ gi L j ∧ gi L j ≤ 64) (j : Nat) : -128 * (j : Int) ≤ sumTo L j ∧ sumTo L j ≤ 128 * (j : Int) := by
  induction j with
  | zero => simp [sumTo]
  | succ j ih => have := h j; rw [sumTo]; omega
noncomputable def cntH (n : Int) (xs : List Int) (p : Int) : Int := sumTo (holesB n xs p) (holesB n xs p).length
set_option maxHeartbeats 1000000 in
theorem CountHoles_c (n : Int) (va : Value) (xs : List Int) (p : Int) (w : World) (ha : Rd w va (ints xs)) : Calls Try.prog 88 #[cx n va, .int .i64 p] w fun e w' => e = .returned (.int .i64 (cntH n xs p)) ∧ Below w.heap.size w w' := by
  obtain ⟨p1, l1, k1, rfl⟩ := ha.form
  have hS := (St.start w).box n (.slice p1 l1 k1) 30
  have ha' := hS.old ha
  have HS := hid hS
  clear hS
  have E : Hid (cntH n xs p = sumTo (holesB n xs p) (holesB n xs p).length) := rfl
  have h7 := holesB_len n xs p
  have HR := hid (holesB_rng n xs p)
  unfold cx
  go_enter Try.func88, Try.ntmps88
  go_wp2_with fail
  refine (HolesMod_c n _ xs p _ ha').mono ?_
  generalize holesB n xs p = L at *
  rintro e w1 ⟨u, rfl, hS1⟩
  have HS1 := hid (HS.out.call1 hS1)
  have la := hS1.hd.iln tI
  clear hS1
  go_wp2_with fail
  go_loop [5, 12] (fun s i => ∃ j : Nat, j ≤ L.length ∧ i = .int .i64 j ∧ s = .int .i64 (sumTo L j)) (fun _ i => L.length - (intOf i).toNat)
  case atStart => exact ⟨0, by omega, rfl, rfl⟩
  case round =>
    obtain ⟨j, hj, rfl, rfl⟩ := hrel
    by_cases hlt : j < L.length
    · have f1 := HS1.out.hd.iix tI j hlt
      have f2 := HS1.out.hd.intCell j hlt
      have r1 := sumTo_rng HR.out j
      have r2 := HR.out j
      have E2 : Hid (sumTo L (j + 1) = sumTo L j + gi L j) := rfl
      go_wp2_with fail
      go_round
      case rel => exact ⟨j + 1, by omega, by go_num, by rw [E2.out]⟩
      case measure => simp [intOf]; omega
    · have ej : j = L.length := by omega
      subst ej
      go_wp2_with fail
      go_ret
      exact ⟨by rw [E.out]; rfl, HS1.out.bel⟩

set_option maxHeartbeats 1000000 in
theorem sCountHoles_c (n : Int) (va : Value) (xs : List Int) (p : Int) (w : World) (ha : Rd w va (ints xs)) : Calls Try.prog 141 #[cx n va, .int .i64 p] w fun e w' => e = .returned (.int .i64 (cntH n xs p)) ∧ Below w.heap.size w w' := by
  obtain ⟨p1, l1, k1, rfl⟩ := ha.form
  have hS := (St.start w).box n (.slice p1 l1 k1) 30
  have ha' := hS.old ha
  have HS := hid hS
  clear hS
  have E : Hid (cntH n xs p = sumTo (holesB n xs p) (holesB n xs p).length) := rfl
  have h7 := holesB_len n xs p
  have HR := hid (holesB_rng n xs p)
  unfold cx
  go_enter Try.func141, Try.ntmps141
  go_wp2_with fail
  refine (sHolesMod_c n _ xs p _ ha').mono ?_
  generalize holesB n xs p = L at *
  rintro e w1 ⟨u, rfl, hS1⟩
  have HS1 := hid (HS.out.call1 hS1)
  have la := hS1.hd.iln tI
  clear hS1
  go_wp2_with fail
  go_loop [5, 7] (fun s i => ∃ j : Nat, j ≤ L.length ∧ i = .int .i64 j ∧ s = .int .i64 (sumTo L j)) (fun _ i => L.length - (intOf i).toNat)
  case atStart => exact ⟨0, by omega, rfl, rfl⟩
  case round =>
    obtain ⟨j, hj, rfl, rfl⟩ := hrel
    by_cases hlt : j < L.length
    · have f1 := HS1.out.hd.iix tI j hlt
      have f2 := HS1.out.hd.intCell j hlt
      have r1 := sumTo_rng HR.out j
      have r2 := HR.out j
      have E2 : Hid (sumTo L (j + 1) = sumTo L j + gi L j) := rfl
      go_wp2_with fail
      go_round
      case rel => exact ⟨j + 1, by omega, by go_num, by rw [E2.out]⟩
      case measure => simp [intOf]; omega
    · have ej : j = L.length := by omega
      subst ej
      go_wp2_with fail
      go_ret
      exact ⟨by rw [E.out]; rfl, HS1.out.bel⟩


noncomputable def noHB (n : Int) (xs : List Int) (p : Int) : Bool := decide (0 < (holesB n xs p).length) && (cntH n xs p == 0)
set_option maxHeartbeats 1000000 in
theorem HasNoHoles_c (n : Int) (va : Value) (xs : List Int) (p : Int) (w : World) (ha : Rd w va (ints xs)) : Calls Try.prog 90 #[cx n va, .int .i64 p] w fun e w' => e = .returned (.bool (noHB n xs p)) ∧ Below w.heap.size w w' := by
  obtain ⟨p1, l1, k1, rfl⟩ := ha.form
  have hS := (St.start w).box n (.slice p1 l1 k1) 30
  have ha' := hS.old ha
  have HS := hid hS
  clear hS
  have E : Hid (noHB n xs p = (decide (0 < (holesB n xs p).length) && (cntH n xs p == 0))) := rfl
  by_cases h0 : 0 < (holesB n xs p).length
  · have E2 : Hid (noHB n xs p = (cntH n xs p == 0)) := by show _ = _; rw [E.out, decide_eq_true h0, Bool.true_and]
    unfold cx
    go_enter Try.func90, Try.ntmps90
    go_wp2_with fail
    refine (HolesMod_c n _ xs p _ ha').mono ?_
    generalize holesB n xs p = L at *
    rintro e w1 ⟨u, rfl, hS1⟩
    have HS1 := hid (HS.out.call1 hS1)
    have la := hS1.hd.iln tI
    have q0 : decide ((0 : Int) < (L.length : Int)) = true := decide_eq_true (by omega)
    have d0 := HS1.out.hd2.c0
    have d1 := HS1.out.hd2.c1
    have ha1 := HS1.out.old ha
    clear hS1
    go_wp2_with fail
    refine (CountHoles_c n _ xs p _ ha1).mono ?_
    rintro e w2 ⟨rfl, hB⟩
    have HS2 := hid (HS1.out.quiet hB)
    clear hB
    go_wp2_with fail
    go_ret
    exact ⟨ret_bool E2.out.symm, HS2.out.bel⟩
  · have E2 : Hid (noHB n xs p = false) := by show _ = _; rw [E.out, decide_eq_false h0, Bool.false_and]
    unfold cx
    go_enter Try.func90, Try.ntmps90
    go_wp2_with fail
    refine (HolesMod_c n _ xs p _ ha').mono ?_
    generalize holesB n xs p = L at *
    rintro e w1 ⟨u, rfl, hS1⟩
    have HS1 := hid (HS.out.call1 hS1)
    have la := hS1.hd.iln tI
    have q0 : decide ((0 : Int) < (L.length : Int)) = false := decide_eq_false (by omega)
    clear hS1
    go_wp2_with fail
    go_ret
    exact ⟨ret_bool E2.out.symm, HS1.out.bel⟩

set_option maxHeartbeats 1000000 in
theorem sHasNoHoles_c (n : Int) (va : Value) (xs : List Int) (p : Int) (w : World) (ha : Rd w va (ints xs)) : Calls Try.prog 62 #[cx n va, .int .i64 p] w fun e w' => e = .returned (.bool (noHB n xs p)) ∧ Below w.heap.size w w' := by
  obtain ⟨p1, l1, k1, rfl⟩ := ha.form
  have hS := (St.start w).box n (.slice p1 l1 k1) 30
  have ha' := hS.old ha
  have HS := hid hS
  clear hS
  have E : Hid (noHB n xs p = (decide (0 < (holesB n xs p).length) && (cntH n xs p == 0))) := rfl
  by_cases h0 : 0 < (holesB n xs p).length
  · have E2 : Hid (noHB n xs p = (cntH n xs p == 0)) := by show _ = _; rw [E.out, decide_eq_true h0, Bool.true_and]
    unfold cx
    go_enter Try.func62, Try.ntmps62
    go_wp2_with fail
    refine (sHolesMod_c n _ xs p _ ha').mono ?_
    generalize holesB n xs p = L at *
    rintro e w1 ⟨u, rfl, hS1⟩
    have HS1 := hid (HS.out.call1 hS1)
    have la := hS1.hd.iln tI
    have q0 : decide ((0 : Int) < (L.length : Int)) = true := decide_eq_true (by omega)
    have d0 := HS1.out.hd2.c0
    have d1 := HS1.out.hd2.c1
    have ha1 := HS1.out.old ha
    clear hS1
    go_wp2_with fail
    refine (sCountHoles_c n _ xs p _ ha1).mono ?_
    rintro e w2 ⟨rfl, hB⟩
    have HS2 := hid (HS1.out.quiet hB)
    clear hB
    go_wp2_with fail
    go_ret
    exact ⟨ret_bool E2.out.symm, HS2.out.bel⟩
  · have E2 : Hid (noHB n xs p = false) := by show _ = _; rw [E.out, decide_eq_false h0, Bool.false_and]
    unfold cx
    go_enter Try.func62, Try.ntmps62
    go_wp2_with fail
    refine (sHolesMod_c n _ xs p _ ha').mono ?_
    generalize holesB n xs p = L at *
    rintro e w1 ⟨u, rfl, hS1⟩
    have HS1 := hid (HS.out.call1 hS1)
    have la := hS1.hd.iln tI
    have q0 : decide ((0 : Int) < (L.length : Int)) = false := decide_eq_false (by omega)
    clear hS1
    go_wp2_with fail
    go_ret
    exact ⟨ret_bool E2.out.symm, HS1.out.bel⟩


noncomputable def sphB (n : Int) (xs : List Int) (p : Int) : Bool := decide (0 < (holesB n xs p).length) && ((gi (holesB n xs p) ((holesB n xs p).length - 1) == 1) && (cntH n xs p == 1))
set_option maxHeartbeats 1000000 in
theorem IsSphereLike_c (n : Int) (va : Value) (xs : List Int) (p : Int) (w : World) (ha : Rd w va (ints xs)) : Calls Try.prog 91 #[cx n va, .int .i64 p] w fun e w' => e = .returned (.bool (sphB n xs p)) ∧ Below w.heap.size w w' := by
  obtain ⟨p1, l1, k1, rfl⟩ := ha.form
  have hS := (St.start w).box n (.slice p1 l1 k1) 30
  have ha' := hS.old ha
  have HS := hid hS
  clear hS
  have E : Hid (sphB n xs p = (decide (0 < (holesB n xs p).length) && ((gi (holesB n xs p) ((holesB n xs p).length - 1) == 1) && (cntH n xs p == 1)))) := rfl
  by_cases h0 : 0 < (holesB n xs p).length
  · cases hl : gi (holesB n xs p) ((holesB n xs p).length - 1) == 1 with
    | true =>
      have E2 : Hid (sphB n xs p = (cntH n xs p == 1)) := by show _ = _; rw [E.out, decide_eq_true h0, hl, Bool.true_and, Bool.true_and]
      unfold cx
      go_enter Try.func91, Try.ntmps91
      go_wp2_with fail
      refine (HolesMod_c n _ xs p _ ha').mono ?_
      generalize holesB n xs p = L at *
      rintro e w1 ⟨u, rfl, hS1⟩
      have HS1 := hid (HS.out.call1 hS1)
      have la := hS1.hd.iln tI
      have q0 : decide ((0 : Int) < (L.length : Int)) = true := decide_eq_true (by omega)
      have q1 : ((L.length : Int) == 0) = false := by rw [beq_eq_false_iff_ne]; omega
      have f1 := hS1.hd.iix tI (L.length - 1) (by omega)
      have f2 := hS1.hd.intCell (L.length - 1) (by omega)
      rw [show ((L.length - 1 : Nat) : Int) = (L.length : Int) - 1 by omega] at f1
      have hle := hS1.hd.ile
      have d0 := HS1.out.hd2.c0
      have d1 := HS1.out.hd2.c1
      have ha1 := HS1.out.old ha
      clear hS1
      go_wp2_with fail
      refine (CountHoles_c n _ xs p _ ha1).mono ?_
      rintro e w2 ⟨rfl, hB⟩
      have HS2 := hid (HS1.out.quiet hB)
      clear hB
      go_wp2_with fail
      go_ret
      exact ⟨ret_bool E2.out.symm, HS2.out.bel⟩
    | false =>
      have E2 : Hid (sphB n xs p = false) := by show _ = _; rw [E.out, decide_eq_true h0, hl, Bool.false_and, Bool.and_false]
      unfold cx
      go_enter Try.func91, Try.ntmps91
      go_wp2_with fail
      refine (HolesMod_c n _ xs p _ ha').mono ?_
      generalize holesB n xs p = L at *
      rintro e w1 ⟨u, rfl, hS1⟩
      have HS1 := hid (HS.out.call1 hS1)
      have la := hS1.hd.iln tI
      have q0 : decide ((0 : Int) < (L.length : Int)) = true := decide_eq_true (by omega)
      have q1 : ((L.length : Int) == 0) = false := by rw [beq_eq_false_iff_ne]; omega
      have f1 := hS1.hd.iix tI (L.length - 1) (by omega)
      have f2 := hS1.hd.intCell (L.length - 1) (by omega)
      rw [show ((L.length - 1 : Nat) : Int) = (L.length : Int) - 1 by omega] at f1
      have hle := hS1.hd.ile
      clear hS1
      go_wp2_with fail
      go_ret
      exact ⟨ret_bool E2.out.symm, HS1.out.bel⟩
  · have E2 : Hid (sphB n xs p = false) := by show _ = _; rw [E.out, decide_eq_false h0, Bool.false_and]
    unfold cx
    go_enter Try.func91, Try.ntmps91
    go_wp2_with fail
    refine (HolesMod_c n _ xs p _ ha').mono ?_
    generalize holesB n xs p = L at *
    rintro e w1 ⟨u, rfl, hS1⟩
    have HS1 := hid (HS.out.call1 hS1)
    have la := hS1.hd.iln tI
    have q0 : decide ((0 : Int) < (L.length : Int)) = false := decide_eq_false (by omega)
    have q1 : ((L.length : Int) == 0) = true := by rw [beq_iff_eq]; omega
    clear hS1
    go_wp2_with fail
    go_ret
    exact ⟨ret_bool E2.out.symm, HS1.out.bel⟩

set_option maxHeartbeats 1000000 in
theorem sIsSphereLike_c (n : Int) (va : Value) (xs : List Int) (p : Int) (w : World) (ha : Rd w va (ints xs)) : Calls Try.prog 63 #[cx n va, .int .i64 p] w fun e w' => e = .returned (.bool (sphB n xs p)) ∧ Below w.heap.size w w' := by
  obtain ⟨p1, l1, k1, rfl⟩ := ha.form
  have hS := (St.start w).box n (.slice p1 l1 k1) 30
  have ha' := hS.old ha
  have HS := hid hS
  clear hS
  have E : Hid (sphB n xs p = (decide (0 < (holesB n xs p).length) && ((gi (holesB n xs p) ((holesB n xs p).length - 1) == 1) && (cntH n xs p == 1)))) := rfl
  by_cases h0 : 0 < (holesB n xs p).length
  · cases hl : gi (holesB n xs p) ((holesB n xs p).length - 1) == 1 with
    | true =>
      have E2 : Hid (sphB n xs p = (cntH n xs p == 1)) := by show _ = _; rw [E.out, decide_eq_true h0, hl, Bool.true_and, Bool.true_and]
      unfold cx
      go_enter Try.func63, Try.ntmps63
      go_wp2_with fail
      refine (sHolesMod_c n _ xs p _ ha').mono ?_
      generalize holesB n xs p = L at *
      rintro e w1 ⟨u, rfl, hS1⟩
      have HS1 := hid (HS.out.call1 hS1)
      have la := hS1.hd.iln tI
      have q0 : decide ((0 : Int) < (L.length : Int)) = true := decide_eq_true (by omega)
      have q1 : ((L.length : Int) == 0) = false := by rw [beq_eq_false_iff_ne]; omega
      have f1 := hS1.hd.iix tI (L.length - 1) (by omega)
      have f2 := hS1.hd.intCell (L.length - 1) (by omega)
      rw [show ((L.length - 1 : Nat) : Int) = (L.length : Int) - 1 by omega] at f1
      have hle := hS1.hd.ile
      have d0 := HS1.out.hd2.c0
      have d1 := HS1.out.hd2.c1
      have ha1 := HS1.out.old ha
      clear hS1
      go_wp2_with fail
      refine (sCountHoles_c n _ xs p _ ha1).mono ?_
      rintro e w2 ⟨rfl, hB⟩
      have HS2 := hid (HS1.out.quiet hB)
      clear hB
      go_wp2_with fail
      go_ret
      exact ⟨ret_bool E2.out.symm, HS2.out.bel⟩
    | false =>
      have E2 : Hid (sphB n xs p = false) := by show _ = _; rw [E.out, decide_eq_true h0, hl, Bool.false_and, Bool.and_false]
      unfold cx
      go_enter Try.func63, Try.ntmps63
      go_wp2_with fail
      refine (sHolesMod_c n _ xs p _ ha').mono ?_
      generalize holesB n xs p = L at *
      rintro e w1 ⟨u, rfl, hS1⟩
      have HS1 := hid (HS.out.call1 hS1)
      have la := hS1.hd.iln tI
      have q0 : decide ((0 : Int) < (L.length : Int)) = true := decide_eq_true (by omega)
      have q1 : ((L.length : Int) == 0) = false := by rw [beq_eq_false_iff_ne]; omega
      have f1 := hS1.hd.iix tI (L.length - 1) (by omega)
      have f2 := hS1.hd.intCell (L.length - 1) (by omega)
      rw [show ((L.length - 1 : Nat) : Int) = (L.length : Int) - 1 by omega] at f1
      have hle := hS1.hd.ile
      clear hS1
      go_wp2_with fail
      go_ret
      exact ⟨ret_bool E2.out.symm, HS1.out.bel⟩
  · have E2 : Hid (sphB n xs p = false) := by show _ = _; rw [E.out, decide_eq_false h0, Bool.false_and]
    unfold cx
    go_enter Try.func63, Try.ntmps63
    go_wp2_with fail
    refine (sHolesMod_c n _ xs p _ ha').mono ?_
    generalize holesB n xs p = L at *
    rintro e w1 ⟨u, rfl, hS1⟩
    have HS1 := hid (HS.out.call1 hS1)
    have la := hS1.hd.iln tI
    have q0 : decide ((0 : Int) < (L.length : Int)) = false := decide_eq_false (by omega)
    have q1 : ((L.length : Int) == 0) = true := by rw [beq_iff_eq]; omega
    clear hS1
    go_wp2_with fail
    go_ret
    exact ⟨ret_bool E2.out.symm, HS1.out.bel⟩


end Go.Proofs.Ytjaofbdfhcgmeaa
