/-
  Complexes that are alike up to names: plain law, equality of complexes, and the program's function.
  Complexes that are alike up to names: the reference's function.
-/
import Derived.Test.YtjaofbdfhcgmeaaGreatZCan
import Derived.Test.YtjaofbdfhcgmeaaGreatFv
import Derived.Test.YtjaofbdfhcgmeaaGreatEq
import Derived.Deep.RegionHeld3
namespace Go.Proofs.YtjaofbdfhcgmeaaGreat
open Go.RowKit

theorem canL_cnt {n : Int} {fs : List Int} (hc : IsC n fs) : cntS (dn (mem (canL n fs))) = cntS (dn (mem fs)) := by
  have hL : ∀ j, j < (lvl n.toNat n.toNat).length → Names n (gr (lvl n.toNat n.toNat) j) := fun j hj => by
    have n1 := hc.1
    have n6 := hc.2.1
    have := lvl_names (n := n.toNat) (by omega) (by omega) (gr_mem hj)
    rwa [show ((n.toNat : Nat) : Int) = n by omega] at this
  have : ∀ j, j ≤ (lvl n.toNat n.toNat).length → cntS (dn (mem (bestTo (lvl n.toNat n.toNat) fs j))) = cntS (dn (mem fs)) := by
    intro j
    induction j with
    | zero => intro _; rfl
    | succ j ih =>
      intro hj
      rw [bestTo]
      split
      · exact cnt_rnL (hL j (by omega)) hc.2.2.1
      · exact ih (by omega)
  exact this _ (Nat.le_refl _)
def alikeB (n : Int) (fs : List Int) (m : Int) (gs : List Int) : Bool := isC n fs && isC m gs && (n == m) && decide (canL n fs = canL m gs)
theorem alike_fv {n : Int} {fs gs : List Int} (h1 : isC n fs = true) (h2 : isC n gs = true) (h : ¬ fvB n fs = fvB n gs) : decide (canL n fs = canL n gs) = false := by
  refine decide_eq_false fun e => h ?_
  rw [fvB, fvB, if_pos h1, if_pos h2, ← canL_cnt (isC_iff.1 h1), ← canL_cnt (isC_iff.1 h2), e]

def eqC (n : Int) (xs : List Int) (m : Int) (ys : List Int) : Bool := (n == m) && decide (xs = ys)
set_option maxHeartbeats 1000000 in
theorem EqualComplex_c (n m : Int) (va vb : Value) (xs ys : List Int) (w : World) (ha : Rd w va (ints xs)) (hb : Rd w vb (ints ys)) : Calls Tryz.prog 56 #[cx n va, cx m vb] w fun e w' => e = .returned (.bool (eqC n xs m ys)) ∧ Below w.heap.size w w' := by
  obtain ⟨p1, l1, k1, rfl⟩ := ha.form
  obtain ⟨p2, l2, k2, rfl⟩ := hb.form
  have hS := ((St.start w).box n (.slice p1 l1 k1) 26).boxAt m (.slice p2 l2 k2) 26 (H := w.heap.size + 1) (by simp)
  have ha' := hS.old ha
  have hb' := hS.old hb
  have HB := hid hS.bel
  clear hS
  cases hn : (n == m) with
  | false =>
    have E : Hid (eqC n xs m ys = false) := by show _ = _; rw [eqC, hn]; rfl
    unfold cx
    go_enter Tryz.func56, Tryz.ntmps56
    go_wp2_with fail
    go_ret
    exact ⟨ret_bool E.out.symm, HB.out⟩
  | true =>
    have E : Hid (eqC n xs m ys = decide (xs = ys)) := by show _ = _; rw [eqC, hn]; rfl
    unfold cx
    go_enter Tryz.func56, Tryz.ntmps56
    go_wp2_with fail
    refine (slEqual_c _ _ xs ys _ ha' hb').mono ?_
    rintro e w1 ⟨rfl, q, rfl⟩
    go_wp2_with fail
    go_ret
    exact ⟨ret_bool E.out.symm, below_drewN HB.out q⟩

set_option maxHeartbeats 1000000 in
theorem sEqualComplex_c (n m : Int) (va vb : Value) (xs ys : List Int) (w : World) (ha : Rd w va (ints xs)) (hb : Rd w vb (ints ys)) : Calls Tryz.prog 57 #[cx n va, cx m vb] w fun e w' => e = .returned (.bool (eqC n xs m ys)) ∧ Below w.heap.size w w' := by
  obtain ⟨p1, l1, k1, rfl⟩ := ha.form
  obtain ⟨p2, l2, k2, rfl⟩ := hb.form
  have hS := ((St.start w).box n (.slice p1 l1 k1) 26).boxAt m (.slice p2 l2 k2) 26 (H := w.heap.size + 1) (by simp)
  have ha' := hS.old ha
  have hb' := hS.old hb
  have HB := hid hS.bel
  clear hS
  cases hn : (n == m) with
  | false =>
    have E : Hid (eqC n xs m ys = false) := by show _ = _; rw [eqC, hn]; rfl
    unfold cx
    go_enter Tryz.func57, Tryz.ntmps57
    go_wp2_with fail
    go_ret
    exact ⟨ret_bool E.out.symm, HB.out⟩
  | true =>
    have E : Hid (eqC n xs m ys = decide (xs = ys)) := by show _ = _; rw [eqC, hn]; rfl
    unfold cx
    go_enter Tryz.func57, Tryz.ntmps57
    go_wp2_with fail
    refine (l2Same_c _ _ xs ys _ ha' hb').mono ?_
    rintro e w1 ⟨rfl, q, rfl⟩
    go_wp2_with fail
    go_ret
    exact ⟨ret_bool E.out.symm, below_drewN HB.out q⟩


set_option maxHeartbeats 4000000 in
set_option maxRecDepth 100000 in
theorem AreAlike_c (n m : Int) (va vb : Value) (fs gs : List Int) (w : World) (ha : Rd w va (ints fs)) (hb : Rd w vb (ints gs)) : Calls Tryz.prog 19 #[cx n va, cx m vb] w fun e w' => e = .returned (.bool (alikeB n fs m gs)) ∧ Below w.heap.size w w' := by
  obtain ⟨p1, l1, k1, rfl⟩ := ha.form
  obtain ⟨p2, l2, k2, rfl⟩ := hb.form
  have hS := ((St.start w).box n (.slice p1 l1 k1) 26).boxAt m (.slice p2 l2 k2) 26 (H := w.heap.size + 1) (by simp)
  have ha' := hS.old ha
  have HS := hid hS
  clear hS
  cases h1 : isC n fs with
  | false =>
    have E : Hid (alikeB n fs m gs = false) := by show _ = _; rw [alikeB, h1]; rfl
    unfold cx
    go_enter Tryz.func19, Tryz.ntmps19
    go_wp2_with fail
    refine (IsComplex_c n _ fs _ ha').mono ?_
    rw [h1]
    rintro e w1 ⟨rfl, hB⟩
    have HS1 := hid (HS.out.quiet hB)
    clear hB
    go_wp2_with fail
    go_ret
    exact ⟨ret_bool E.out.symm, HS1.out.bel⟩
  | true =>
    cases h2 : isC m gs with
    | false =>
      have E : Hid (alikeB n fs m gs = false) := by show _ = _; rw [alikeB, h1, h2]; rfl
      unfold cx
      go_enter Tryz.func19, Tryz.ntmps19
      go_wp2_with fail
      refine (IsComplex_c n _ fs _ ha').mono ?_
      rw [h1]
      rintro e w1 ⟨rfl, hB⟩
      have HS1 := hid (HS.out.quiet hB)
      have d0 := HS1.out.hd.c0
      have d1 := HS1.out.hd.c1
      clear hB
      go_wp2_with fail
      refine (IsComplex_c m _ gs _ (HS1.out.old hb)).mono ?_
      rw [h2]
      rintro e w2 ⟨rfl, hB⟩
      have HS2 := hid (HS1.out.quiet hB)
      clear hB
      go_wp2_with fail
      go_ret
      exact ⟨ret_bool E.out.symm, HS2.out.bel⟩
    | true =>
      have H1 := hid h1
      have H2 := hid h2
      by_cases hnm : n = m
      · subst hnm
        have E : Hid (alikeB n fs n gs = decide (canL n fs = canL n gs)) := by show _ = _; rw [alikeB, h1, h2]; simp
        have q0 : (n != n) = false := by simp
        cases hq : decide (fvB n fs = fvB n gs) with
        | false =>
          have E2 : Hid (decide (canL n fs = canL n gs) = false) := alike_fv h1 h2 (by simpa using hq)
          have HQ := hid hq
          clear h1 h2 hq
          unfold cx
          go_enter Tryz.func19, Tryz.ntmps19
          go_wp2_with fail
          refine (IsComplex_c n _ fs _ ha').mono ?_
          rw [H1.out]
          rintro e w1 ⟨rfl, hB⟩
          have HS1 := hid (HS.out.quiet hB)
          have d0 := HS1.out.hd.c0
          have d1 := HS1.out.hd.c1
          clear hB
          go_wp2_with fail
          refine (IsComplex_c n _ gs _ (HS1.out.old hb)).mono ?_
          rw [H2.out]
          rintro e w2 ⟨rfl, hB⟩
          have HS2 := hid (HS1.out.quiet hB)
          clear hB d0 d1
          have d0 := HS2.out.hd.c0
          have d1 := HS2.out.hd.c1
          have c0 := HS2.out.hd2.c0
          have c1 := HS2.out.hd2.c1
          go_wp2_with fail
          go_region_held3 (fun w' => w'.cell? ⟨w.heap.size, 0, none⟩ = some (.int .i64 n) ∧ w'.cell? ⟨w.heap.size, 1, none⟩ = some (.slice p1 l1 k1) ∧ w'.cell? ⟨w.heap.size + 1, 0, none⟩ = some (.int .i64 n) ∧ w'.cell? ⟨w.heap.size + 1, 1, none⟩ = some (.slice p2 l2 k2)) (first | go_keep | exact ⟨k0', k1', k2', k3'⟩ | exact ⟨m0, m1, m2, m3⟩)
            (first
              | (go_at_call 54; refine (slEqual_c _ _ (fvB n fs) (fvB n gs) _ HS5.out.hd2 HS5.out.hd).mono ?_; rw [HQ.out]; rintro e w5 ⟨rfl, q, rfl⟩; have HS6 := hid (HS5.out.drewN q))
              | (go_at_call 55; refine (FaceCounts_c n _ gs _ (HS4.out.old hb)).mono ?_; rintro e w4 ⟨v4, rfl, hS3⟩; have hS5 := HS4.out.call1 hS3; have m0 := hS5.hd4.c0; have m1 := hS5.hd4.c1; have m2 := hS5.hd3.c0; have m3 := hS5.hd3.c1; have HS5 := hid hS5; clear hS3 hS5)
              | (go_at_call 55; refine (FaceCounts_c n _ fs _ ((HS2.out.old ha).drew 1)).mono ?_; rintro e w3 ⟨v3, rfl, hS3⟩; have hS4 := (HS2.out.drewN 1).call1 hS3; have k0' := hS4.hd3.c0; have k1' := hS4.hd3.c1; have k2' := hS4.hd2.c0; have k3' := hS4.hd2.c1; have HS4 := hid hS4; clear hS3 hS4))
          all_goals
            go_wp2_with fail
            go_ret
            exact ⟨ret_bool (by rw [E.out, E2.out]), HS6.out.bel⟩
        | true =>
          have HQ := hid hq
          clear h1 h2 hq
          unfold cx
          go_enter Tryz.func19, Tryz.ntmps19
          go_wp2_with fail
          refine (IsComplex_c n _ fs _ ha').mono ?_
          rw [H1.out]
          rintro e w1 ⟨rfl, hB⟩
          have HS1 := hid (HS.out.quiet hB)
          have d0 := HS1.out.hd.c0
          have d1 := HS1.out.hd.c1
          clear hB
          go_wp2_with fail
          refine (IsComplex_c n _ gs _ (HS1.out.old hb)).mono ?_
          rw [H2.out]
          rintro e w2 ⟨rfl, hB⟩
          have HS2 := hid (HS1.out.quiet hB)
          clear hB d0 d1
          have d0 := HS2.out.hd.c0
          have d1 := HS2.out.hd.c1
          have c0 := HS2.out.hd2.c0
          have c1 := HS2.out.hd2.c1
          go_wp2_with fail
          go_region_held3 (fun w' => w'.cell? ⟨w.heap.size, 0, none⟩ = some (.int .i64 n) ∧ w'.cell? ⟨w.heap.size, 1, none⟩ = some (.slice p1 l1 k1) ∧ w'.cell? ⟨w.heap.size + 1, 0, none⟩ = some (.int .i64 n) ∧ w'.cell? ⟨w.heap.size + 1, 1, none⟩ = some (.slice p2 l2 k2)) (first | go_keep | exact ⟨k0', k1', k2', k3'⟩ | exact ⟨m0, m1, m2, m3⟩)
            (first
              | (go_at_call 54; refine (slEqual_c _ _ (fvB n fs) (fvB n gs) _ HS5.out.hd2 HS5.out.hd).mono ?_; rw [HQ.out]; rintro e w5 ⟨rfl, q, rfl⟩; have hS6 := HS5.out.tail.tail.drewN q; have x0 := hS6.hd2.c0; have x1 := hS6.hd2.c1; have HS6 := hid hS6; clear hS6)
              | (go_at_call 55; refine (FaceCounts_c n _ gs _ (HS4.out.old hb)).mono ?_; rintro e w4 ⟨v4, rfl, hS3⟩; have hS5 := HS4.out.call1 hS3; have m0 := hS5.hd4.c0; have m1 := hS5.hd4.c1; have m2 := hS5.hd3.c0; have m3 := hS5.hd3.c1; have HS5 := hid hS5; clear hS3 hS5)
              | (go_at_call 55; refine (FaceCounts_c n _ fs _ ((HS2.out.old ha).drew 1)).mono ?_; rintro e w3 ⟨v3, rfl, hS3⟩; have hS4 := (HS2.out.drewN 1).call1 hS3; have k0' := hS4.hd3.c0; have k1' := hS4.hd3.c1; have k2' := hS4.hd2.c0; have k3' := hS4.hd2.c1; have HS4 := hid hS4; clear hS3 hS4))
          all_goals
            go_wp2_with fail
            refine (CanonicalComplex_c n _ fs _ (HS6.out.old ha)).mono ?_
            rw [H1.out]
            rintro e w6 ⟨v6, rfl, hS7⟩
            obtain ⟨p6, l6, k6, rfl⟩ := hS7.hd.form
            have hS8 := (HS6.out.call1 hS7).box (resN true n) (.slice p6 l6 k6) 26
            clear x0 x1
            have x0 := hS8.hd3.c0
            have x1 := hS8.hd3.c1
            have HS8 := hid hS8
            clear hS7 hS8
            unfold cx
            go_wp2_with fail
            refine (CanonicalComplex_c n _ gs _ (HS8.out.old hb)).mono ?_
            rw [H2.out]
            rintro e w7 ⟨v7, rfl, hS9⟩
            obtain ⟨p7, l7, k7, rfl⟩ := hS9.hd.form
            have hS10 := (HS8.out.call1 hS9).box (resN true n) (.slice p7 l7 k7) 26
            clear x0 x1
            have x0 := hS10.hd.c0
            have x1 := hS10.hd.c1
            have y0 := hS10.hd3.c0
            have y1 := hS10.hd3.c1
            have HS10 := hid hS10
            clear hS9 hS10
            unfold cx
            go_wp2_with fail
            refine (EqualComplex_c _ _ _ _ _ _ _ HS10.out.hd4 HS10.out.hd2).mono ?_
            rintro e w8 ⟨rfl, hB⟩
            have HS11 := hid (HS10.out.quiet hB)
            clear hB
            go_wp2_with fail
            go_ret
            exact ⟨ret_bool (by rw [E.out, eqC]; simp [resN, resL]), HS11.out.bel⟩
      · have E : Hid (alikeB n fs m gs = false) := by show _ = _; rw [alikeB, h1, h2]; simp [hnm]
        have q0 : (n != m) = true := by simp [hnm]
        clear h1 h2 hnm
        unfold cx
        go_enter Tryz.func19, Tryz.ntmps19
        go_wp2_with fail
        refine (IsComplex_c n _ fs _ ha').mono ?_
        rw [H1.out]
        rintro e w1 ⟨rfl, hB⟩
        have HS1 := hid (HS.out.quiet hB)
        have d0 := HS1.out.hd.c0
        have d1 := HS1.out.hd.c1
        clear hB
        go_wp2_with fail
        refine (IsComplex_c m _ gs _ (HS1.out.old hb)).mono ?_
        rw [H2.out]
        rintro e w2 ⟨rfl, hB⟩
        have HS2 := hid (HS1.out.quiet hB)
        clear hB d0 d1
        have d0 := HS2.out.hd.c0
        have d1 := HS2.out.hd.c1
        have c0 := HS2.out.hd2.c0
        have c1 := HS2.out.hd2.c1
        go_wp2_with fail
        go_region
        go_wp2_with fail
        go_ret
        exact ⟨ret_bool E.out.symm, (HS2.out.drewN 1).bel⟩

end Go.Proofs.YtjaofbdfhcgmeaaGreat

namespace Go.Proofs.YtjaofbdfhcgmeaaGreat
open Go.RowKit

set_option maxHeartbeats 4000000 in
set_option maxRecDepth 100000 in
theorem sAreAlike_c (n m : Int) (va vb : Value) (fs gs : List Int) (w : World) (ha : Rd w va (ints fs)) (hb : Rd w vb (ints gs)) : Calls Tryz.prog 20 #[cx n va, cx m vb] w fun e w' => e = .returned (.bool (alikeB n fs m gs)) ∧ Below w.heap.size w w' := by
  obtain ⟨p1, l1, k1, rfl⟩ := ha.form
  obtain ⟨p2, l2, k2, rfl⟩ := hb.form
  have hS := ((St.start w).box n (.slice p1 l1 k1) 26).boxAt m (.slice p2 l2 k2) 26 (H := w.heap.size + 1) (by simp)
  have ha' := hS.old ha
  have HS := hid hS
  clear hS
  have HCA := hid (sCanonicalComplex_c n (.slice p1 l1 k1) fs _ ha')
  have HCB : Hid (∀ w, Rd w (.slice p2 l2 k2) (ints gs) → _) := fun w h => sCanonicalComplex_c m (.slice p2 l2 k2) gs w h
  cases h1 : isC n fs with
  | false =>
    have E : Hid (alikeB n fs m gs = false) := by show _ = _; rw [alikeB, h1]; rfl
    rw [h1] at HCA
    unfold cx
    go_enter Tryz.func20, Tryz.ntmps20
    go_wp2_with fail
    refine HCA.out.mono ?_
    rintro e w3 ⟨v3, rfl, hS3⟩
    obtain ⟨p6, l6, k6, rfl⟩ := hS3.hd.form
    have hS8 := (HS.out.call1 hS3).box (resN false n) (.slice p6 l6 k6) 26
    have x0 := hS8.hd3.c0
    have x1 := hS8.hd3.c1
    have HS8 := hid hS8
    clear hS3 hS8
    unfold cx
    go_wp2_with fail
    refine (HCB.out _ (HS8.out.old hb)).mono ?_
    rintro e w7 ⟨v7, rfl, hS9⟩
    obtain ⟨p7, l7, k7, rfl⟩ := hS9.hd.form
    have HS10 := hid ((HS8.out.call1 hS9).box (resN (isC m gs) m) (.slice p7 l7 k7) 26)
    clear hS9
    unfold cx
    go_wp2_with fail
    go_ret
    exact ⟨ret_bool E.out.symm, HS10.out.bel⟩
  | true =>
    rw [h1] at HCA
    cases h2 : isC m gs with
    | false =>
      have E : Hid (alikeB n fs m gs = false) := by show _ = _; rw [alikeB, h1, h2]; rfl
      rw [h2] at HCB
      unfold cx
      go_enter Tryz.func20, Tryz.ntmps20
      go_wp2_with fail
      refine HCA.out.mono ?_
      rintro e w3 ⟨v3, rfl, hS3⟩
      obtain ⟨p6, l6, k6, rfl⟩ := hS3.hd.form
      have hS8 := (HS.out.call1 hS3).box (resN true n) (.slice p6 l6 k6) 26
      have x0 := hS8.hd3.c0
      have x1 := hS8.hd3.c1
      have HS8 := hid hS8
      clear hS3 hS8
      unfold cx
      go_wp2_with fail
      refine (HCB.out _ (HS8.out.old hb)).mono ?_
      rintro e w7 ⟨v7, rfl, hS9⟩
      obtain ⟨p7, l7, k7, rfl⟩ := hS9.hd.form
      have HS10 := hid ((HS8.out.call1 hS9).box (resN false m) (.slice p7 l7 k7) 26)
      clear hS9
      unfold cx
      go_wp2_with fail
      go_ret
      exact ⟨ret_bool E.out.symm, HS10.out.bel⟩
    | true =>
      have E : Hid (alikeB n fs m gs = eqC (resN true n) (resL true (canL n fs)) (resN true m) (resL true (canL m gs))) := by show _ = _; rw [alikeB, h1, h2, eqC]; simp [resN, resL]
      rw [h2] at HCB
      unfold cx
      go_enter Tryz.func20, Tryz.ntmps20
      go_wp2_with fail
      refine HCA.out.mono ?_
      rintro e w3 ⟨v3, rfl, hS3⟩
      obtain ⟨p6, l6, k6, rfl⟩ := hS3.hd.form
      have hS8 := (HS.out.call1 hS3).box (resN true n) (.slice p6 l6 k6) 26
      have x0 := hS8.hd3.c0
      have x1 := hS8.hd3.c1
      have HS8 := hid hS8
      clear hS3 hS8
      unfold cx
      go_wp2_with fail
      refine (HCB.out _ (HS8.out.old hb)).mono ?_
      rintro e w7 ⟨v7, rfl, hS9⟩
      obtain ⟨p7, l7, k7, rfl⟩ := hS9.hd.form
      have hS10 := (HS8.out.call1 hS9).box (resN true m) (.slice p7 l7 k7) 26
      clear x0 x1
      have x0 := hS10.hd.c0
      have x1 := hS10.hd.c1
      have y0 := hS10.hd3.c0
      have y1 := hS10.hd3.c1
      have HS10 := hid hS10
      clear hS9 hS10
      unfold cx
      go_wp2_with fail
      refine (sEqualComplex_c _ _ _ _ _ _ _ HS10.out.hd4 HS10.out.hd2).mono ?_
      rintro e w8 ⟨rfl, hB⟩
      have HS11 := hid (HS10.out.quiet hB)
      clear hB
      go_wp2_with fail
      go_ret
      exact ⟨ret_bool E.out.symm, HS11.out.bel⟩

end Go.Proofs.YtjaofbdfhcgmeaaGreat
