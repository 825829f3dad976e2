/-
  Equality of slices of int.
-/
import Derived.Test.YtjaofbdfhcgmeaaFam
namespace Go.Proofs.Ytjaofbdfhcgmeaa
open Go.RowKit

theorem take_all_eq {xs ys : List Int} (hl : xs.length = ys.length) {j : Nat} (hj : xs.length ≤ j) (h : xs.take j = ys.take j) : xs = ys := by
  rwa [List.take_of_length_le hj, List.take_of_length_le (by omega)] at h
theorem take_ne {xs ys : List Int} {j : Nat} (hne : gi xs j ≠ gi ys j) : xs ≠ ys := by rintro rfl; exact hne rfl
set_option maxHeartbeats 1000000 in
theorem slEqual_c (va vb : Value) (xs ys : List Int) (w : World) (ha : Rd w va (ints xs)) (hb : Rd w vb (ints ys)) : Calls Try.prog 170 #[va, vb] w fun e w' => e = .returned (.bool (decide (xs = ys))) ∧ ∃ m, w' = w.drewN m := by
  have la := ha.iln tI
  have lb := hb.iln tI
  have ll := ha.ile
  by_cases hl : xs.length = ys.length
  · have dl : ((xs.length : Int) != (ys.length : Int)) = false := by simp [hl]
    have HL := hid hl
    go_enter Try.func170, Try.ntmps170
    go_wp2_with fail
    go_loopw [13] (fun i wr => ∃ (j m : Nat), j ≤ xs.length ∧ i = .int .i64 j ∧ Hid (xs.take j = ys.take j) ∧ wr = w.drewN m) (fun i _ => xs.length - (intOf i).toNat)
    case atStart => exact ⟨0, 0, by omega, rfl, by simp [Hid], rfl⟩
    case round =>
      obtain ⟨j, m, hj, rfl, hN, hw⟩ := hrel
      have ha' : Rd wr va (ints xs) := by rw [hw]; exact ha.drew m
      have hb' : Rd wr vb (ints ys) := by rw [hw]; exact hb.drew m
      have HW := hid hw; clear hw
      by_cases hlt : j < xs.length
      · have f1 := ha'.iix tI j hlt
        have f2 := ha'.intCell j hlt
        have hlt2 : j < ys.length := by omega
        have g1 := hb'.iix tI j (by omega)
        have g2 := hb'.intCell j (by omega)
        clear hl
        by_cases he : gi xs j = gi ys j
        · have d : (gi xs j != gi ys j) = false := by simp [he]
          have N2 : Hid (xs.take (j + 1) = ys.take (j + 1)) := by
            show _ = _
            rw [take_succ_gi hlt, take_succ_gi (by have := HL.out; omega), hN.out, he]
          clear he
          go_wp2_with fail
          go_region
          go_wp2_with fail
          go_roundw
          case rel => exact ⟨j + 1, m + 1, by omega, by go_num, N2, by rw [HW.out]; rfl⟩
          case measure => simp [intOf]; omega
        · have d : (gi xs j != gi ys j) = true := by simp [he]
          have E : Hid (decide (xs = ys) = false) := by show _ = _; simp [take_ne he]
          clear he
          go_wp2_with fail
          go_region
          go_wp2_with fail
          go_ret
          exact ⟨ret_bool E.out.symm, m + 1, by rw [HW.out]; rfl⟩
      · have E : Hid (decide (xs = ys) = true) := by show _ = _; simp [take_all_eq hl (by omega) hN.out]
        have hge : xs.length ≤ j := by omega
        have hge2 : ys.length ≤ j := by omega
        clear hl
        go_wp2_with fail
        go_ret
        exact ⟨ret_bool E.out.symm, m, HW.out⟩
  · have dl : ((xs.length : Int) != (ys.length : Int)) = true := by simp; omega
    have E : Hid (decide (xs = ys) = false) := by show _ = _; simp; rintro rfl; exact hl rfl
    clear hl
    go_enter Try.func170, Try.ntmps170
    go_wp2_with fail
    go_ret
    exact ⟨ret_bool E.out.symm, 0, rfl⟩

set_option maxHeartbeats 1000000 in
theorem l2Same_c (va vb : Value) (xs ys : List Int) (w : World) (ha : Rd w va (ints xs)) (hb : Rd w vb (ints ys)) : Calls Try.prog 171 #[va, vb] w fun e w' => e = .returned (.bool (decide (xs = ys))) ∧ ∃ m, w' = w.drewN m := by
  have la := ha.iln tI
  have lb := hb.iln tI
  have ll := ha.ile
  by_cases hl : xs.length = ys.length
  · have dl : ((xs.length : Int) != (ys.length : Int)) = false := by simp [hl]
    have HL := hid hl
    go_enter Try.func171, Try.ntmps171
    go_wp2_with fail
    go_loopw [5] (fun i wr => ∃ (j m : Nat), j ≤ xs.length ∧ i = .int .i64 j ∧ Hid (xs.take j = ys.take j) ∧ wr = w.drewN m) (fun i _ => xs.length - (intOf i).toNat)
    case atStart => exact ⟨0, 0, by omega, rfl, by simp [Hid], rfl⟩
    case round =>
      obtain ⟨j, m, hj, rfl, hN, hw⟩ := hrel
      have ha' : Rd wr va (ints xs) := by rw [hw]; exact ha.drew m
      have hb' : Rd wr vb (ints ys) := by rw [hw]; exact hb.drew m
      have HW := hid hw; clear hw
      by_cases hlt : j < xs.length
      · have f1 := ha'.iix tI j hlt
        have f2 := ha'.intCell j hlt
        have hlt2 : j < ys.length := by omega
        have g1 := hb'.iix tI j (by omega)
        have g2 := hb'.intCell j (by omega)
        clear hl
        by_cases he : gi xs j = gi ys j
        · have d : (gi xs j != gi ys j) = false := by simp [he]
          have N2 : Hid (xs.take (j + 1) = ys.take (j + 1)) := by
            show _ = _
            rw [take_succ_gi hlt, take_succ_gi (by have := HL.out; omega), hN.out, he]
          clear he
          go_wp2_with fail
          go_region
          go_wp2_with fail
          go_roundw
          case rel => exact ⟨j + 1, m + 1, by omega, by go_num, N2, by rw [HW.out]; rfl⟩
          case measure => simp [intOf]; omega
        · have d : (gi xs j != gi ys j) = true := by simp [he]
          have E : Hid (decide (xs = ys) = false) := by show _ = _; simp [take_ne he]
          clear he
          go_wp2_with fail
          go_region
          go_wp2_with fail
          go_ret
          exact ⟨ret_bool E.out.symm, m + 1, by rw [HW.out]; rfl⟩
      · have E : Hid (decide (xs = ys) = true) := by show _ = _; simp [take_all_eq hl (by omega) hN.out]
        have hge : xs.length ≤ j := by omega
        have hge2 : ys.length ≤ j := by omega
        clear hl
        go_wp2_with fail
        go_ret
        exact ⟨ret_bool E.out.symm, m, HW.out⟩
  · have dl : ((xs.length : Int) != (ys.length : Int)) = true := by simp; omega
    have E : Hid (decide (xs = ys) = false) := by show _ = _; simp; rintro rfl; exact hl rfl
    clear hl
    go_enter Try.func171, Try.ntmps171
    go_wp2_with fail
    go_ret
    exact ⟨ret_bool E.out.symm, 0, rfl⟩

set_option maxHeartbeats 1000000 in
theorem sameInts_c (va vb : Value) (xs ys : List Int) (w : World) (ha : Rd w va (ints xs)) (hb : Rd w vb (ints ys)) : Calls Try.prog 17 #[va, vb] w fun e w' => e = .returned (.bool (decide (xs = ys))) ∧ ∃ m, w' = w.drewN m := by
  have la := ha.iln tI
  have lb := hb.iln tI
  have ll := ha.ile
  by_cases hl : xs.length = ys.length
  · have dl : ((xs.length : Int) != (ys.length : Int)) = false := by simp [hl]
    have HL := hid hl
    go_enter Try.func17, Try.ntmps17
    go_wp2_with fail
    go_loopw [5] (fun i wr => ∃ (j m : Nat), j ≤ xs.length ∧ i = .int .i64 j ∧ Hid (xs.take j = ys.take j) ∧ wr = w.drewN m) (fun i _ => xs.length - (intOf i).toNat)
    case atStart => exact ⟨0, 0, by omega, rfl, by simp [Hid], rfl⟩
    case round =>
      obtain ⟨j, m, hj, rfl, hN, hw⟩ := hrel
      have ha' : Rd wr va (ints xs) := by rw [hw]; exact ha.drew m
      have hb' : Rd wr vb (ints ys) := by rw [hw]; exact hb.drew m
      have HW := hid hw; clear hw
      by_cases hlt : j < xs.length
      · have f1 := ha'.iix tI j hlt
        have f2 := ha'.intCell j hlt
        have hlt2 : j < ys.length := by omega
        have g1 := hb'.iix tI j (by omega)
        have g2 := hb'.intCell j (by omega)
        clear hl
        by_cases he : gi xs j = gi ys j
        · have d : (gi xs j != gi ys j) = false := by simp [he]
          have N2 : Hid (xs.take (j + 1) = ys.take (j + 1)) := by
            show _ = _
            rw [take_succ_gi hlt, take_succ_gi (by have := HL.out; omega), hN.out, he]
          clear he
          go_wp2_with fail
          go_region
          go_wp2_with fail
          go_roundw
          case rel => exact ⟨j + 1, m + 1, by omega, by go_num, N2, by rw [HW.out]; rfl⟩
          case measure => simp [intOf]; omega
        · have d : (gi xs j != gi ys j) = true := by simp [he]
          have E : Hid (decide (xs = ys) = false) := by show _ = _; simp [take_ne he]
          clear he
          go_wp2_with fail
          go_region
          go_wp2_with fail
          go_ret
          exact ⟨ret_bool E.out.symm, m + 1, by rw [HW.out]; rfl⟩
      · have E : Hid (decide (xs = ys) = true) := by show _ = _; simp [take_all_eq hl (by omega) hN.out]
        have hge : xs.length ≤ j := by omega
        have hge2 : ys.length ≤ j := by omega
        clear hl
        go_wp2_with fail
        go_ret
        exact ⟨ret_bool E.out.symm, m, HW.out⟩
  · have dl : ((xs.length : Int) != (ys.length : Int)) = true := by simp; omega
    have E : Hid (decide (xs = ys) = false) := by show _ = _; simp; rintro rfl; exact hl rfl
    clear hl
    go_enter Try.func17, Try.ntmps17
    go_wp2_with fail
    go_ret
    exact ⟨ret_bool E.out.symm, 0, rfl⟩



end Go.Proofs.Ytjaofbdfhcgmeaa
