/-
  Equal complexes; self-dual ones.
-/
import Derived.Test.YtjaofbdfhcgmeaaDual2
namespace Go.Proofs.Ytjaofbdfhcgmeaa
open Go.RowKit

theorem take_all_eq {xs ys : List Int} (hl : xs.length = ys.length) {j : Nat} (hj : xs.length ≤ j) (h : xs.take j = ys.take j) : xs = ys := by
  rwa [List.take_of_length_le hj, List.take_of_length_le (by omega)] at h
theorem take_ne {xs ys : List Int} {j : Nat} (hne : gi xs j ≠ gi ys j) : xs ≠ ys := by rintro rfl; exact hne rfl
set_option maxHeartbeats 1000000 in
theorem slEqual_c (va vb : Value) (xs ys : List Int) (w : World) (ha : Rd w va (ints xs)) (hb : Rd w vb (ints ys)) : Calls Try.prog 170 #[va, vb] w fun e w' => e = .returned (.bool (decide (xs = ys))) ∧ ∃ m, w' = w.drewN m := by
  have la := ha.iln tI
  have lb := hb.iln tI
  have ll := ha.ile
  by_cases hl : xs.length = ys.length
  · have dl : ((xs.length : Int) != (ys.length : Int)) = false := by simp [hl]
    have HL := hid hl
    go_enter Try.func170, Try.ntmps170
    go_wp2_with fail
    go_loopw [13] (fun i wr => ∃ (j m : Nat), j ≤ xs.length ∧ i = .int .i64 j ∧ Hid (xs.take j = ys.take j) ∧ wr = w.drewN m) (fun i _ => xs.length - (intOf i).toNat)
    case atStart => exact ⟨0, 0, by omega, rfl, by simp [Hid], rfl⟩
    case round =>
      obtain ⟨j, m, hj, rfl, hN, hw⟩ := hrel
      have ha' : Rd wr va (ints xs) := by rw [hw]; exact ha.drew m
      have hb' : Rd wr vb (ints ys) := by rw [hw]; exact hb.drew m
      have HW := hid hw; clear hw
      by_cases hlt : j < xs.length
      · have f1 := ha'.iix tI j hlt
        have f2 := ha'.intCell j hlt
        have hlt2 : j < ys.length := by omega
        have g1 := hb'.iix tI j (by omega)
        have g2 := hb'.intCell j (by omega)
        clear hl
        by_cases he : gi xs j = gi ys j
        · have d : (gi xs j != gi ys j) = false := by simp [he]
          have N2 : Hid (xs.take (j + 1) = ys.take (j + 1)) := by
            show _ = _
            rw [take_succ_gi hlt, take_succ_gi (by have := HL.out; omega), hN.out, he]
          clear he
          go_wp2_with fail
          go_region
          go_wp2_with fail
          go_roundw
          case rel => exact ⟨j + 1, m + 1, by omega, by go_num, N2, by rw [HW.out]; rfl⟩
          case measure => simp [intOf]; omega
        · have d : (gi xs j != gi ys j) = true := by simp [he]
          have E : Hid (decide (xs = ys) = false) := by show _ = _; simp [take_ne he]
          clear he
          go_wp2_with fail
          go_region
          go_wp2_with fail
          go_ret
          exact ⟨ret_bool E.out.symm, m + 1, by rw [HW.out]; rfl⟩
      · have E : Hid (decide (xs = ys) = true) := by show _ = _; simp [take_all_eq hl (by omega) hN.out]
        have hge : xs.length ≤ j := by omega
        have hge2 : ys.length ≤ j := by omega
        clear hl
        go_wp2_with fail
        go_ret
        exact ⟨ret_bool E.out.symm, m, HW.out⟩
  · have dl : ((xs.length : Int) != (ys.length : Int)) = true := by simp; omega
    have E : Hid (decide (xs = ys) = false) := by show _ = _; simp; rintro rfl; exact hl rfl
    clear hl
    go_enter Try.func170, Try.ntmps170
    go_wp2_with fail
    go_ret
    exact ⟨ret_bool E.out.symm, 0, rfl⟩

set_option maxHeartbeats 1000000 in
theorem l2Same_c (va vb : Value) (xs ys : List Int) (w : World) (ha : Rd w va (ints xs)) (hb : Rd w vb (ints ys)) : Calls Try.prog 171 #[va, vb] w fun e w' => e = .returned (.bool (decide (xs = ys))) ∧ ∃ m, w' = w.drewN m := by
  have la := ha.iln tI
  have lb := hb.iln tI
  have ll := ha.ile
  by_cases hl : xs.length = ys.length
  · have dl : ((xs.length : Int) != (ys.length : Int)) = false := by simp [hl]
    have HL := hid hl
    go_enter Try.func171, Try.ntmps171
    go_wp2_with fail
    go_loopw [5] (fun i wr => ∃ (j m : Nat), j ≤ xs.length ∧ i = .int .i64 j ∧ Hid (xs.take j = ys.take j) ∧ wr = w.drewN m) (fun i _ => xs.length - (intOf i).toNat)
    case atStart => exact ⟨0, 0, by omega, rfl, by simp [Hid], rfl⟩
    case round =>
      obtain ⟨j, m, hj, rfl, hN, hw⟩ := hrel
      have ha' : Rd wr va (ints xs) := by rw [hw]; exact ha.drew m
      have hb' : Rd wr vb (ints ys) := by rw [hw]; exact hb.drew m
      have HW := hid hw; clear hw
      by_cases hlt : j < xs.length
      · have f1 := ha'.iix tI j hlt
        have f2 := ha'.intCell j hlt
        have hlt2 : j < ys.length := by omega
        have g1 := hb'.iix tI j (by omega)
        have g2 := hb'.intCell j (by omega)
        clear hl
        by_cases he : gi xs j = gi ys j
        · have d : (gi xs j != gi ys j) = false := by simp [he]
          have N2 : Hid (xs.take (j + 1) = ys.take (j + 1)) := by
            show _ = _
            rw [take_succ_gi hlt, take_succ_gi (by have := HL.out; omega), hN.out, he]
          clear he
          go_wp2_with fail
          go_region
          go_wp2_with fail
          go_roundw
          case rel => exact ⟨j + 1, m + 1, by omega, by go_num, N2, by rw [HW.out]; rfl⟩
          case measure => simp [intOf]; omega
        · have d : (gi xs j != gi ys j) = true := by simp [he]
          have E : Hid (decide (xs = ys) = false) := by show _ = _; simp [take_ne he]
          clear he
          go_wp2_with fail
          go_region
          go_wp2_with fail
          go_ret
          exact ⟨ret_bool E.out.symm, m + 1, by rw [HW.out]; rfl⟩
      · have E : Hid (decide (xs = ys) = true) := by show _ = _; simp [take_all_eq hl (by omega) hN.out]
        have hge : xs.length ≤ j := by omega
        have hge2 : ys.length ≤ j := by omega
        clear hl
        go_wp2_with fail
        go_ret
        exact ⟨ret_bool E.out.symm, m, HW.out⟩
  · have dl : ((xs.length : Int) != (ys.length : Int)) = true := by simp; omega
    have E : Hid (decide (xs = ys) = false) := by show _ = _; simp; rintro rfl; exact hl rfl
    clear hl
    go_enter Try.func171, Try.ntmps171
    go_wp2_with fail
    go_ret
    exact ⟨ret_bool E.out.symm, 0, rfl⟩


def eqC (n : Int) (xs : List Int) (m : Int) (ys : List Int) : Bool := (n == m) && decide (xs = ys)
set_option maxHeartbeats 1000000 in
theorem EqualComplex_c (n m : Int) (va vb : Value) (xs ys : List Int) (w : World) (ha : Rd w va (ints xs)) (hb : Rd w vb (ints ys)) : Calls Try.prog 127 #[cx n va, cx m vb] w fun e w' => e = .returned (.bool (eqC n xs m ys)) ∧ Below w.heap.size w w' := by
  obtain ⟨p1, l1, k1, rfl⟩ := ha.form
  obtain ⟨p2, l2, k2, rfl⟩ := hb.form
  have hS := ((St.start w).box n (.slice p1 l1 k1) 30).boxAt m (.slice p2 l2 k2) 30 (H := w.heap.size + 1) (by simp)
  have ha' := hS.old ha
  have hb' := hS.old hb
  have HB := hid hS.bel
  clear hS
  cases hn : (n == m) with
  | false =>
    have E : Hid (eqC n xs m ys = false) := by show _ = _; rw [eqC, hn]; rfl
    unfold cx
    go_enter Try.func127, Try.ntmps127
    go_wp2_with fail
    go_ret
    exact ⟨ret_bool E.out.symm, HB.out⟩
  | true =>
    have E : Hid (eqC n xs m ys = decide (xs = ys)) := by show _ = _; rw [eqC, hn]; rfl
    unfold cx
    go_enter Try.func127, Try.ntmps127
    go_wp2_with fail
    refine (slEqual_c _ _ xs ys _ ha' hb').mono ?_
    rintro e w1 ⟨rfl, q, rfl⟩
    go_wp2_with fail
    go_ret
    exact ⟨ret_bool E.out.symm, below_drewN HB.out q⟩

set_option maxHeartbeats 1000000 in
theorem sEqualComplex_c (n m : Int) (va vb : Value) (xs ys : List Int) (w : World) (ha : Rd w va (ints xs)) (hb : Rd w vb (ints ys)) : Calls Try.prog 128 #[cx n va, cx m vb] w fun e w' => e = .returned (.bool (eqC n xs m ys)) ∧ Below w.heap.size w w' := by
  obtain ⟨p1, l1, k1, rfl⟩ := ha.form
  obtain ⟨p2, l2, k2, rfl⟩ := hb.form
  have hS := ((St.start w).box n (.slice p1 l1 k1) 30).boxAt m (.slice p2 l2 k2) 30 (H := w.heap.size + 1) (by simp)
  have ha' := hS.old ha
  have hb' := hS.old hb
  have HB := hid hS.bel
  clear hS
  cases hn : (n == m) with
  | false =>
    have E : Hid (eqC n xs m ys = false) := by show _ = _; rw [eqC, hn]; rfl
    unfold cx
    go_enter Try.func128, Try.ntmps128
    go_wp2_with fail
    go_ret
    exact ⟨ret_bool E.out.symm, HB.out⟩
  | true =>
    have E : Hid (eqC n xs m ys = decide (xs = ys)) := by show _ = _; rw [eqC, hn]; rfl
    unfold cx
    go_enter Try.func128, Try.ntmps128
    go_wp2_with fail
    refine (l2Same_c _ _ xs ys _ ha' hb').mono ?_
    rintro e w1 ⟨rfl, q, rfl⟩
    go_wp2_with fail
    go_ret
    exact ⟨ret_bool E.out.symm, below_drewN HB.out q⟩


def selfB (n : Int) (xs : List Int) : Bool := isC n xs && decide (xs = dualL n xs)
set_option maxHeartbeats 2000000 in
theorem IsSelfDual_c (n : Int) (v : Value) (xs : List Int) (w : World) (hv : Rd w v (ints xs)) : Calls Try.prog 36 #[cx n v] w fun e w' => e = .returned (.bool (selfB n xs)) ∧ Below w.heap.size w w' := by
  obtain ⟨pv, lv, cv, rfl⟩ := hv.form
  have hS := (St.start w).box n (.slice pv lv cv) 30
  have c0 := hS.hd.c0
  have c1 := hS.hd.c1
  have hv' := hS.old hv
  have HS := hid hS
  clear hS
  cases hb : isC n xs with
  | false =>
    have E : Hid (selfB n xs = false) := by show _ = _; rw [selfB, hb]; rfl
    unfold cx
    go_enter Try.func36, Try.ntmps36
    go_wp2_with fail
    refine (DualOf_c n _ xs _ hv').mono ?_
    rw [hb]
    rintro e w1 ⟨u, rfl, hS1⟩
    obtain ⟨p, l, c, rfl⟩ := hS1.hd.form
    have HS1 := hid ((HS.out.call1 hS1).box (resN false n) (.slice p l c) 30)
    clear hS1
    unfold cx
    go_wp2_with fail
    go_ret
    exact ⟨ret_bool E.out.symm, HS1.out.bel⟩
  | true =>
    have E : Hid (selfB n xs = eqC n xs (resN true n) (resL true (dualL n xs))) := by show _ = _; rw [selfB, hb, eqC]; simp [resN, resL]
    unfold cx
    go_enter Try.func36, Try.ntmps36
    go_wp2_with fail
    refine (DualOf_c n _ xs _ hv').mono ?_
    rw [hb]
    rintro e w1 ⟨u, rfl, hS1⟩
    obtain ⟨p, l, c, rfl⟩ := hS1.hd.form
    have hS2 := (HS.out.call1 hS1).box (resN true n) (.slice p l c) 30
    have d0 := hS2.hd3.c0
    have d1 := hS2.hd3.c1
    have hv2 := hS2.old hv
    have HS2 := hid hS2
    clear hS1 hS2
    unfold cx
    go_wp2_with fail
    refine (EqualComplex_c n (resN true n) _ _ xs _ _ hv2 HS2.out.hd2).mono ?_
    rintro e w2 ⟨rfl, hB2⟩
    have HS3 := hid (HS2.out.quiet hB2)
    clear hB2
    go_wp2_with fail
    go_ret
    exact ⟨ret_bool E.out.symm, HS3.out.bel⟩

set_option maxHeartbeats 2000000 in
theorem sIsSelfDual_c (n : Int) (v : Value) (xs : List Int) (w : World) (hv : Rd w v (ints xs)) : Calls Try.prog 37 #[cx n v] w fun e w' => e = .returned (.bool (selfB n xs)) ∧ Below w.heap.size w w' := by
  obtain ⟨pv, lv, cv, rfl⟩ := hv.form
  have hS := (St.start w).box n (.slice pv lv cv) 30
  have c0 := hS.hd.c0
  have c1 := hS.hd.c1
  have hv' := hS.old hv
  have HS := hid hS
  clear hS
  cases hb : isC n xs with
  | false =>
    have E : Hid (selfB n xs = false) := by show _ = _; rw [selfB, hb]; rfl
    unfold cx
    go_enter Try.func37, Try.ntmps37
    go_wp2_with fail
    refine (sDualOf_c n _ xs _ hv').mono ?_
    rw [hb]
    rintro e w1 ⟨u, rfl, hS1⟩
    obtain ⟨p, l, c, rfl⟩ := hS1.hd.form
    have HS1 := hid ((HS.out.call1 hS1).box (resN false n) (.slice p l c) 30)
    clear hS1
    unfold cx
    go_wp2_with fail
    go_ret
    exact ⟨ret_bool E.out.symm, HS1.out.bel⟩
  | true =>
    have E : Hid (selfB n xs = eqC n xs (resN true n) (resL true (dualL n xs))) := by show _ = _; rw [selfB, hb, eqC]; simp [resN, resL]
    unfold cx
    go_enter Try.func37, Try.ntmps37
    go_wp2_with fail
    refine (sDualOf_c n _ xs _ hv').mono ?_
    rw [hb]
    rintro e w1 ⟨u, rfl, hS1⟩
    obtain ⟨p, l, c, rfl⟩ := hS1.hd.form
    have hS2 := (HS.out.call1 hS1).box (resN true n) (.slice p l c) 30
    have d0 := hS2.hd3.c0
    have d1 := hS2.hd3.c1
    have hv2 := hS2.old hv
    have HS2 := hid hS2
    clear hS1 hS2
    unfold cx
    go_wp2_with fail
    refine (sEqualComplex_c n (resN true n) _ _ xs _ _ hv2 HS2.out.hd2).mono ?_
    rintro e w2 ⟨rfl, hB2⟩
    have HS3 := hid (HS2.out.quiet hB2)
    clear hB2
    go_wp2_with fail
    go_ret
    exact ⟨ret_bool E.out.symm, HS3.out.bel⟩


end Go.Proofs.Ytjaofbdfhcgmeaa
