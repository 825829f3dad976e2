/-
  Numbers: bounds, primes, sets of points, binomial coefficients as the program reckons them.
-/
import Derived.Test.YtjaofbdfhcgmeaaLib
namespace Go.Proofs.Ytjaofbdfhcgmeaa
open Go.RowKit

theorem ret_int {a b : Int} (h : a = b) : Ending.returned (.int .i64 a) = .returned (.int .i64 b) := by rw [h]
theorem ret_bool {a b : Bool} (h : a = b) : Ending.returned (.bool a) = .returned (.bool b) := by rw [h]

def inB (x lo hi : Int) : Bool := decide (lo ≤ x ∧ x ≤ hi)
theorem inB_t {x lo hi : Int} (h1 : lo ≤ x) (h2 : x ≤ hi) : inB x lo hi = true := by simp [inB, h1, h2]
theorem inB_f {x lo hi : Int} (h : ¬ (lo ≤ x ∧ x ≤ hi)) : inB x lo hi = false := by simp only [inB, h, decide_false]

theorem l1In_c (x lo hi : Int) (w : World) : Calls Try.prog 112 #[.int .i64 x, .int .i64 lo, .int .i64 hi] w fun e w' => e = .returned (.bool (inB x lo hi)) ∧ w = w' := by
  go_enter Try.func112, Try.ntmps112
  go_wp2_with fail
  all_goals (go_ret; exact ⟨ret_bool (by rw [Bool.eq_iff_iff]; simp [inB]; omega), rfl⟩)

/-! ### Sets of the first n points -/

def isSetB (n s : Int) : Bool := decide (0 ≤ n ∧ n ≤ 6 ∧ 0 ≤ s ∧ s < (2 : Int) ^ n.toNat)
theorem isSetB_t {n s : Int} (h : 0 ≤ n ∧ n ≤ 6 ∧ 0 ≤ s ∧ s < (2 : Int) ^ n.toNat) : isSetB n s = true := by simp only [isSetB, h, decide_true, and_self]
theorem isSetB_iff {n s : Int} : isSetB n s = true ↔ 0 ≤ n ∧ n ≤ 6 ∧ 0 ≤ s ∧ s < (2 : Int) ^ n.toNat := by simp [isSetB]
theorem six {n : Int} (h0 : 0 ≤ n) (h6 : n ≤ 6) : n = 0 ∨ n = 1 ∨ n = 2 ∨ n = 3 ∨ n = 4 ∨ n = 5 ∨ n = 6 := by omega

set_option maxHeartbeats 1000000 in
theorem IsSet_c (n s : Int) (w : World) : Calls Try.prog 125 #[.int .i64 n, .int .i64 s] w fun e w' => e = .returned (.bool (isSetB n s)) ∧ w = w' := by
  by_cases h0 : 0 ≤ n
  · by_cases h6 : n ≤ 6
    · rcases six h0 h6 with rfl | rfl | rfl | rfl | rfl | rfl | rfl
      all_goals
        go_enter Try.func125, Try.ntmps125
        go_wp2_with fail
        all_goals (go_ret; exact ⟨ret_bool (by rw [Bool.eq_iff_iff]; simp [isSetB]; omega), rfl⟩)
    · go_enter Try.func125, Try.ntmps125
      go_wp2_with fail
      all_goals (go_ret; exact ⟨ret_bool (by rw [Bool.eq_iff_iff]; simp [isSetB]; omega), rfl⟩)
  · go_enter Try.func125, Try.ntmps125
    go_wp2_with fail
    all_goals (go_ret; exact ⟨ret_bool (by rw [Bool.eq_iff_iff]; simp [isSetB]; omega), rfl⟩)
set_option maxHeartbeats 1000000 in
theorem sIsSet_c (n s : Int) (w : World) : Calls Try.prog 126 #[.int .i64 n, .int .i64 s] w fun e w' => e = .returned (.bool (isSetB n s)) ∧ w = w' := by
  by_cases h : 0 ≤ n ∧ n ≤ 6
  · have e1 : inB n 0 6 = true := inB_t h.1 h.2
    rcases six h.1 h.2 with rfl | rfl | rfl | rfl | rfl | rfl | rfl
    all_goals
      clear h
      go_enter Try.func126, Try.ntmps126
      go_wp2_with (go_at_call 112; refine (l1In_c _ _ _ _).mono ?_; rintro e w' ⟨rfl, rfl⟩)
      all_goals (go_ret; exact ⟨ret_bool (by rw [Bool.eq_iff_iff]; simp [isSetB, inB]; omega), rfl⟩)
  · have e1 : inB n 0 6 = false := inB_f h
    have e2 : isSetB n s = false := by
      rw [← Bool.not_eq_true, isSetB_iff]
      exact fun h' => h ⟨h'.1, h'.2.1⟩
    have E := hid e2; clear e2 h
    go_enter Try.func126, Try.ntmps126
    go_wp2_with (go_at_call 112; refine (l1In_c _ _ _ _).mono ?_; rintro e w' ⟨rfl, rfl⟩)
    go_ret
    exact ⟨ret_bool E.out.symm, rfl⟩

/-! ### Primes -/

def primeB (p : Int) : Bool := decide (p = 2 ∨ p = 3 ∨ p = 5)
theorem primeB_iff {p : Int} : primeB p = true ↔ p = 2 ∨ p = 3 ∨ p = 5 := by simp [primeB]

theorem IsFieldPrime_c (p : Int) (w : World) : Calls Try.prog 81 #[.int .i64 p] w fun e w' => e = .returned (.bool (primeB p)) ∧ w = w' := by
  by_cases h2 : p = 2
  · subst h2
    go_enter Try.func81, Try.ntmps81
    go_wp2_with fail
    go_ret
    exact ⟨rfl, rfl⟩
  · by_cases h3 : p = 3
    · subst h3
      go_enter Try.func81, Try.ntmps81
      go_wp2_with fail
      go_ret
      exact ⟨rfl, rfl⟩
    · by_cases h5 : p = 5
      · subst h5
        go_enter Try.func81, Try.ntmps81
        go_wp2_with fail
        go_ret
        exact ⟨rfl, rfl⟩
      · have e : primeB p = false := by simp [primeB, h2, h3, h5]
        have E := hid e; clear e
        have g2 : (p == 2) = false := by simp [h2]
        have g3 : (p == 3) = false := by simp [h3]
        have g5 : (p == 5) = false := by simp [h5]
        clear h2 h3 h5
        go_enter Try.func81, Try.ntmps81
        go_wp2_with fail
        go_ret
        exact ⟨ret_bool E.out.symm, rfl⟩

theorem sIsFieldPrime_c (p : Int) (w : World) : Calls Try.prog 82 #[.int .i64 p] w fun e w' => e = .returned (.bool (primeB p)) ∧ w = w' := by
  by_cases h2 : p = 2
  · subst h2
    go_enter Try.func82, Try.ntmps82
    go_wp2_with fail
    go_ret
    exact ⟨rfl, rfl⟩
  · by_cases h3 : p = 3
    · subst h3
      go_enter Try.func82, Try.ntmps82
      go_wp2_with fail
      go_ret
      exact ⟨rfl, rfl⟩
    · by_cases h5 : p = 5
      · subst h5
        go_enter Try.func82, Try.ntmps82
        go_wp2_with fail
        go_ret
        exact ⟨rfl, rfl⟩
      · have e : primeB p = false := by simp [primeB, h2, h3, h5]
        have E := hid e; clear e
        have g2 : (p == 2) = false := by simp [h2]
        have g3 : (p == 3) = false := by simp [h3]
        have g5 : (p == 5) = false := by simp [h5]
        clear h2 h3 h5
        go_enter Try.func82, Try.ntmps82
        go_wp2_with fail
        go_ret
        exact ⟨ret_bool E.out.symm, rfl⟩


/-! ### Binomial coefficients, as they are reckoned -/

def chStep (n : Int) (x : Int) (j : Nat) : Int := wrap64 ((wrap64 (x * wrap64 (n - (j : Int)))).tdiv ((j : Int) + 1))
def chTo (n : Int) : Nat → Int
  | 0 => 1
  | j + 1 => chStep n (chTo n j) j
def chW (n k : Int) : Int := if k < 0 ∨ n < k then 0 else chTo n k.toNat

theorem chooseAny_c (n k : Int) (w : World) (hk : k ≤ 1000000) : Calls Try.prog 100 #[.int .i64 n, .int .i64 k] w fun e w' => e = .returned (.int .i64 (chW n k)) ∧ w = w' := by
  by_cases h0 : k < 0
  · have e : chW n k = 0 := by simp [chW, h0]
    have E := hid e; clear e
    go_enter Try.func100, Try.ntmps100
    go_wp2_with fail
    go_ret
    exact ⟨ret_int E.out.symm, rfl⟩
  · by_cases h1 : n < k
    · have e : chW n k = 0 := by simp [chW, h1]
      have E := hid e; clear e
      go_enter Try.func100, Try.ntmps100
      go_wp2_with fail
      go_ret
      exact ⟨ret_int E.out.symm, rfl⟩
    · have e : chW n k = chTo n k.toNat := by rw [chW, if_neg (by omega)]
      have E := hid e; clear e
      go_enter Try.func100, Try.ntmps100
      go_wp2_with fail
      go_loop [5, 6] (fun r i => ∃ (j : Nat), j ≤ k.toNat ∧ i = .int .i64 j ∧ r = .int .i64 (chTo n j)) (fun _ i => k.toNat - (intOf i).toNat)
      case atStart => exact ⟨0, Nat.zero_le _, rfl, rfl⟩
      case round =>
        obtain ⟨j, hj, rfl, rfl⟩ := hrel
        by_cases hlt : j < k.toNat
        · go_wp2_with fail
          go_round
          case rel => exact ⟨j + 1, by omega, by go_num, rfl⟩
          case measure => simp [intOf]; omega
        · have e : j = k.toNat := by omega
          subst e
          go_wp2_with fail
          go_ret
          exact ⟨ret_int E.out.symm, rfl⟩

theorem l11Choose_c (n k : Int) (w : World) (hk : k ≤ 1000000) : Calls Try.prog 110 #[.int .i64 n, .int .i64 k] w fun e w' => e = .returned (.int .i64 (chW n k)) ∧ w = w' := by
  by_cases h0 : k < 0
  · have e : chW n k = 0 := by simp [chW, h0]
    have E := hid e; clear e
    go_enter Try.func110, Try.ntmps110
    go_wp2_with fail
    go_ret
    exact ⟨ret_int E.out.symm, rfl⟩
  · by_cases h1 : n < k
    · have e : chW n k = 0 := by simp [chW, h1]
      have E := hid e; clear e
      go_enter Try.func110, Try.ntmps110
      go_wp2_with fail
      go_ret
      exact ⟨ret_int E.out.symm, rfl⟩
    · have e : chW n k = chTo n k.toNat := by rw [chW, if_neg (by omega)]
      have E := hid e; clear e
      go_enter Try.func110, Try.ntmps110
      go_wp2_with fail
      go_loop [5, 6] (fun r i => ∃ (j : Nat), j ≤ k.toNat ∧ i = .int .i64 j ∧ r = .int .i64 (chTo n j)) (fun _ i => k.toNat - (intOf i).toNat)
      case atStart => exact ⟨0, Nat.zero_le _, rfl, rfl⟩
      case round =>
        obtain ⟨j, hj, rfl, rfl⟩ := hrel
        by_cases hlt : j < k.toNat
        · go_wp2_with fail
          go_round
          case rel => exact ⟨j + 1, by omega, by go_num, rfl⟩
          case measure => simp [intOf]; omega
        · have e : j = k.toNat := by omega
          subst e
          go_wp2_with fail
          go_ret
          exact ⟨ret_int E.out.symm, rfl⟩


/-- What both Chooses give. -/
def chooseB (n k : Int) : Int := if 0 ≤ n ∧ n ≤ 60 ∧ 0 ≤ k ∧ k ≤ n then chW n k else 0

/-- The same column from the other side, and no step leaves the 64 bits: a closed fact of 1891 pairs. -/
theorem ch_sym : ∀ n : Fin 61, ∀ k : Fin 61, k.val ≤ n.val → chTo n.val (n.val - k.val) = chTo n.val k.val := by decide +kernel

theorem Choose_c (n k : Int) (w : World) : Calls Try.prog 102 #[.int .i64 n, .int .i64 k] w fun e w' => e = .returned (.int .i64 (chooseB n k)) ∧ w = w' := by
  by_cases h : 0 ≤ n ∧ n ≤ 60 ∧ 0 ≤ k ∧ k ≤ n
  · obtain ⟨h0, h60, hk, hkn⟩ := h
    have e : chooseB n k = chW n k := by rw [chooseB, if_pos ⟨h0, h60, hk, hkn⟩]
    have E := hid e; clear e
    by_cases hs : n - k < k
    · have e : chW n (n - k) = chW n k := by
        have h' := ch_sym ⟨n.toNat, by omega⟩ ⟨k.toNat, by omega⟩ (by show k.toNat ≤ n.toNat; omega)
        simp only [Int.toNat_of_nonneg h0] at h'
        rw [chW, chW, if_neg (by omega), if_neg (by omega), ← h', show (n - k).toNat = n.toNat - k.toNat by omega]
      have E2 := hid e; clear e
      go_enter Try.func102, Try.ntmps102
      go_wp2_with (go_at_call 100; refine (chooseAny_c _ _ _ (by omega)).mono ?_; rintro e w' ⟨rfl, rfl⟩)
      go_ret
      exact ⟨ret_int (by rw [E.out, ← E2.out]), rfl⟩
    · go_enter Try.func102, Try.ntmps102
      go_wp2_with (go_at_call 100; refine (chooseAny_c _ _ _ (by omega)).mono ?_; rintro e w' ⟨rfl, rfl⟩)
      go_ret
      exact ⟨ret_int E.out.symm, rfl⟩
  · have e : chooseB n k = 0 := by rw [chooseB, if_neg h]
    have E := hid e; clear e
    by_cases h1 : n < 0
    · clear h
      go_enter Try.func102, Try.ntmps102
      go_wp2_with fail
      go_ret
      exact ⟨ret_int E.out.symm, rfl⟩
    · by_cases h2 : 60 < n
      · clear h
        go_enter Try.func102, Try.ntmps102
        go_wp2_with fail
        go_ret
        exact ⟨ret_int E.out.symm, rfl⟩
      · by_cases h3 : k < 0
        · clear h
          go_enter Try.func102, Try.ntmps102
          go_wp2_with fail
          go_ret
          exact ⟨ret_int E.out.symm, rfl⟩
        · have h4 : n < k := by omega
          clear h
          go_enter Try.func102, Try.ntmps102
          go_wp2_with fail
          go_ret
          exact ⟨ret_int E.out.symm, rfl⟩
theorem sChoose_c (n k : Int) (w : World) : Calls Try.prog 26 #[.int .i64 n, .int .i64 k] w fun e w' => e = .returned (.int .i64 (chooseB n k)) ∧ w = w' := by
  by_cases h : 0 ≤ n ∧ n ≤ 60
  · have e1 := inB_t h.1 h.2
    by_cases h' : 0 ≤ k ∧ k ≤ n
    · have e2 := inB_t h'.1 h'.2
      have e : chooseB n k = chTo n k.toNat := by rw [chooseB, if_pos ⟨h.1, h.2, h'.1, h'.2⟩, chW, if_neg (by omega)]
      have E := hid e; clear e
      have H1 := hid h.1
      have H2 := hid h.2
      have h3 := h'.1
      have h4 : k ≤ 60 := Int.le_trans h'.2 h.2
      clear h h'
      go_enter Try.func26, Try.ntmps26
      go_wp2_with (go_at_call 112; refine (l1In_c _ _ _ _).mono ?_; rintro e w' ⟨rfl, rfl⟩)
      go_loop [5, 6] (fun r i => ∃ (j : Nat), j ≤ k.toNat ∧ i = .int .i64 j ∧ r = .int .i64 (chTo n j)) (fun _ i => k.toNat - (intOf i).toNat)
      case atStart => exact ⟨0, Nat.zero_le _, rfl, rfl⟩
      case round =>
        obtain ⟨j, hj, rfl, rfl⟩ := hrel
        by_cases hlt : j < k.toNat
        · go_wp2_with fail
          go_round
          case rel => exact ⟨j + 1, by omega, by go_num, rfl⟩
          case measure => simp [intOf]; omega
        · have e : j = k.toNat := by omega
          subst e
          go_wp2_with fail
          go_ret
          exact ⟨ret_int E.out.symm, rfl⟩
    · have e2 := inB_f h'
      have e : chooseB n k = 0 := by rw [chooseB, if_neg (by omega)]
      have E := hid e; clear e h h'
      go_enter Try.func26, Try.ntmps26
      go_wp2_with (go_at_call 112; refine (l1In_c _ _ _ _).mono ?_; rintro e w' ⟨rfl, rfl⟩)
      go_ret
      exact ⟨ret_int E.out.symm, rfl⟩
  · have e1 := inB_f h
    have e : chooseB n k = 0 := by rw [chooseB, if_neg (by omega)]
    have E := hid e; clear e h
    go_enter Try.func26, Try.ntmps26
    go_wp2_with (go_at_call 112; refine (l1In_c _ _ _ _).mono ?_; rintro e w' ⟨rfl, rfl⟩)
    go_ret
    exact ⟨ret_int E.out.symm, rfl⟩

end Go.Proofs.Ytjaofbdfhcgmeaa
