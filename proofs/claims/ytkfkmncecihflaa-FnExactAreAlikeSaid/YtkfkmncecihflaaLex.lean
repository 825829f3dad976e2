/-
  Lists in the order of their numbers: which of two of one length comes first.
-/
import Derived.Test.YtkfkmncecihflaaSet
namespace Go.Proofs.Ytkfkmncecihflaa
open Go.RowKit

def lexB : List Int → List Int → Bool
  | a :: xs, b :: ys => if a = b then lexB xs ys else decide (a < b)
  | _, _ => false
def lexN (xs ys : List Int) : Int := if xs = ys then 0 else if lexB xs ys = true then -1 else 1
theorem lexB_refl (xs : List Int) : lexB xs xs = false := by
  induction xs with
  | nil => rfl
  | cons x xs ih => rw [lexB, if_pos rfl, ih]
theorem lexB_at {xs ys : List Int} {j : Nat} (hx : j < xs.length) (hy : j < ys.length) (h : xs.take j = ys.take j) (hne : gi xs j ≠ gi ys j) : lexB xs ys = decide (gi xs j < gi ys j) := by
  induction xs generalizing ys j with
  | nil => simp at hx
  | cons x xs ih => cases ys with
    | nil => simp at hy
    | cons y ys => cases j with
      | zero =>
        have hne' : x ≠ y := by simpa [gi] using hne
        rw [lexB, if_neg hne']; simp [gi]
      | succ j =>
        simp only [List.take_succ_cons, List.cons.injEq] at h
        rw [lexB, if_pos h.1]
        have := ih (ys := ys) (j := j) (by simpa using hx) (by simpa using hy) h.2 (by simpa [gi] using hne)
        rw [this]; simp [gi]
theorem take_snoc_eq {xs ys : List Int} {j : Nat} (hx : j < xs.length) (hy : j < ys.length) (h : xs.take j = ys.take j) (e : gi xs j = gi ys j) : xs.take (j + 1) = ys.take (j + 1) := by
  rw [take_succ_gi hx, take_succ_gi hy, h, e]
theorem ne_of_gi {xs ys : List Int} {j : Nat} (h : gi xs j ≠ gi ys j) : xs ≠ ys := fun e => h (by rw [e])

theorem isNaN_c (x : Int) (w : World) : Calls Try.prog 104 #[.int .i64 x] w fun e w' => e = .returned (.bool false) ∧ w = w' := by
  have h : (x != x) = false := by simp
  go_enter Try.func104, Try.ntmps104
  go_wp2_with fail
  go_ret
  exact ⟨rfl, rfl⟩
def cmpN (x y : Int) : Int := if x < y then -1 else if y < x then 1 else 0
set_option maxHeartbeats 1000000 in
theorem cmpCompare_c (x y : Int) (w : World) : Calls Try.prog 91 #[.int .i64 x, .int .i64 y] w fun e w' => e = .returned (.int .i64 (cmpN x y)) ∧ w = w' := by
  by_cases h1 : x < y
  · have E : Hid (cmpN x y = -1) := if_pos h1
    go_enter Try.func91, Try.ntmps91
    go_wp2_with (go_at_call 104; refine (isNaN_c _ _).mono ?_; rintro e w' ⟨rfl, rfl⟩)
    go_ret
    exact ⟨by rw [E.out]; rfl, rfl⟩
  · by_cases h2 : y < x
    · have E : Hid (cmpN x y = 1) := by show _ = _; rw [cmpN, if_neg h1, if_pos h2]
      go_enter Try.func91, Try.ntmps91
      go_wp2_with (go_at_call 104; refine (isNaN_c _ _).mono ?_; rintro e w' ⟨rfl, rfl⟩)
      go_ret
      exact ⟨by rw [E.out]; rfl, rfl⟩
    · have E : Hid (cmpN x y = 0) := by show _ = _; rw [cmpN, if_neg h1, if_neg h2]
      go_enter Try.func91, Try.ntmps91
      go_wp2_with (go_at_call 104; refine (isNaN_c _ _).mono ?_; rintro e w' ⟨rfl, rfl⟩)
      go_ret
      exact ⟨by rw [E.out]; rfl, rfl⟩
set_option maxHeartbeats 1000000 in
theorem slCompare_c (va vb : Value) (xs ys : List Int) (w : World) (ha : Rd w va (ints xs)) (hb : Rd w vb (ints ys)) (hl : xs.length = ys.length) : Calls Try.prog 71 #[va, vb] w fun e w' => e = .returned (.int .i64 (lexN xs ys)) ∧ w = w' := by
  have la := ha.iln tI
  have ll := ha.ile
  have lb := hb.iln tI
  rw [← hl] at lb
  have HL := hid hl
  go_enter Try.func71, Try.ntmps71
  go_wp2_with fail
  go_loop [11] (fun i => ∃ j : Nat, j ≤ xs.length ∧ i = .int .i64 j ∧ xs.take j = ys.take j) (fun i => xs.length - (intOf i).toNat)
  case atStart => exact ⟨0, Nat.zero_le _, rfl, by simp⟩
  case round =>
    obtain ⟨j, hj, rfl, ht⟩ := hrel
    have HT := hid ht
    clear ht
    by_cases hlt : j < xs.length
    · have f1 := ha.iix tI j hlt
      have f2 := ha.intCell j hlt
      have g1 := hb.iix tI j (by omega)
      have g2 := hb.intCell j (by omega)
      by_cases he : gi xs j = gi ys j
      · have e0 : cmpN (gi xs j) (gi ys j) = 0 := by rw [he, cmpN, if_neg (by omega), if_neg (by omega)]
        have E0 := hid e0
        have E := hid (take_snoc_eq hlt (by omega) HT.out he)
        clear he e0
        go_wp2_with (go_at_call 91; refine (cmpCompare_c _ _ _).mono ?_; rw [E0.out]; rintro e w' ⟨rfl, rfl⟩)
        go_round
        case rel => exact ⟨j + 1, by omega, by go_num, E.out⟩
        case measure => simp [intOf]; omega
      · by_cases hs : gi xs j < gi ys j
        · have E0 : Hid (cmpN (gi xs j) (gi ys j) = -1) := if_pos hs
          have E : Hid (lexN xs ys = -1) := by
            show _ = _
            rw [lexN, if_neg (ne_of_gi he), lexB_at hlt (by omega) HT.out he, if_pos (by simpa using hs)]
          clear he hs
          go_wp2_with (go_at_call 91; refine (cmpCompare_c _ _ _).mono ?_; rw [E0.out]; rintro e w' ⟨rfl, rfl⟩)
          go_ret
          exact ⟨by rw [E.out]; rfl, rfl⟩
        · have E0 : Hid (cmpN (gi xs j) (gi ys j) = 1) := by show _ = _; rw [cmpN, if_neg hs, if_pos (by omega)]
          have E : Hid (lexN xs ys = 1) := by
            show _ = _
            rw [lexN, if_neg (ne_of_gi he), lexB_at hlt (by omega) HT.out he, if_neg (by simpa using hs)]
          clear he hs
          go_wp2_with (go_at_call 91; refine (cmpCompare_c _ _ _).mono ?_; rw [E0.out]; rintro e w' ⟨rfl, rfl⟩)
          go_ret
          exact ⟨by rw [E.out]; rfl, rfl⟩
    · have E : Hid (lexN xs ys = 0) := by
        have := HT.out
        rw [List.take_of_length_le (by omega), List.take_of_length_le (by omega)] at this
        exact if_pos this
      go_wp2_with fail
      go_ret
      exact ⟨by rw [E.out]; rfl, rfl⟩
set_option maxHeartbeats 2000000 in
set_option maxRecDepth 100000 in
theorem l9Less_c (va vb : Value) (xs ys : List Int) (w : World) (ha : Rd w va (ints xs)) (hb : Rd w vb (ints ys)) (hl : xs.length = ys.length) : Calls Try.prog 68 #[va, vb] w fun e w' => e = .returned (.bool (lexB xs ys)) ∧ ∃ m, w' = w.drewN m := by
  have la := ha.iln tI
  have ll := ha.ile
  have lb := hb.iln tI
  rw [← hl] at lb
  have HL := hid hl
  go_enter Try.func68, Try.ntmps68
  go_wp2_with fail
  go_loopw [5] (fun i wr => ∃ j m : Nat, j ≤ xs.length ∧ i = .int .i64 j ∧ xs.take j = ys.take j ∧ wr = w.drewN m) (fun i _ => xs.length - (intOf i).toNat)
  case atStart => exact ⟨0, 0, Nat.zero_le _, rfl, by simp, rfl⟩
  case round =>
    obtain ⟨j, m, hj, rfl, ht, hw⟩ := hrel
    have ha' : Rd wr va (ints xs) := by rw [hw]; exact ha.drew m
    have hb' : Rd wr vb (ints ys) := by rw [hw]; exact hb.drew m
    have HW := hid hw
    have HT := hid ht
    clear ht hw
    by_cases hlt : j < xs.length
    · have f1 := ha'.iix tI j hlt
      have f2 := ha'.intCell j hlt
      have g1 := hb'.iix tI j (by omega)
      have g2 := hb'.intCell j (by omega)
      by_cases he : gi xs j = gi ys j
      · have e0 : (gi xs j != gi ys j) = false := by simp [he]
        have E := hid (take_snoc_eq hlt (by omega) HT.out he)
        clear he
        go_wp2_with fail
        go_region
        go_wp2_with fail
        go_roundw
        case rel => exact ⟨j + 1, m + 1, by omega, by go_num, E.out, by rw [HW.out]; rfl⟩
        case measure => simp [intOf]; omega
      · have e0 : (gi xs j != gi ys j) = true := by simp [he]
        have E : Hid (lexB xs ys = decide (gi xs j < gi ys j)) := lexB_at hlt (by omega) HT.out he
        clear he
        go_wp2_with fail
        go_region
        go_wp2_with fail
        go_region
        go_wp2_with fail
        go_ret
        exact ⟨ret_bool E.out.symm, m + 2, by rw [HW.out]; rfl⟩
    · have E : Hid (lexB xs ys = false) := by
        have := HT.out
        rw [List.take_of_length_le (by omega), List.take_of_length_le (by omega)] at this
        show _ = _
        rw [this, lexB_refl]
      go_wp2_with fail
      go_ret
      exact ⟨ret_bool E.out.symm, _, HW.out⟩

end Go.Proofs.Ytkfkmncecihflaa
