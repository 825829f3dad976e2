/-
  Sizes of sets, and their order.
-/
import Derived.Test.YtjaofbdfhcgmeaaNum
import Derived.Test.YtjaofbdfhcgmeaaBits
namespace Go.Proofs.Ytjaofbdfhcgmeaa
open Go.RowKit

/-- The number of points of a set of at most six. -/
def pcN (n : Nat) : Nat := n % 2 + n / 2 % 2 + n / 4 % 2 + n / 8 % 2 + n / 16 % 2 + n / 32 % 2
def pc (s : Int) : Int := (pcN s.toNat : Int)
theorem pcN_le (n : Nat) : pcN n ≤ 6 := by unfold pcN; omega
theorem pc_rng (s : Int) : 0 ≤ pc s ∧ pc s ≤ 6 := by have := pcN_le s.toNat; unfold pc; omega
def set64 (s : Int) : Bool := decide (0 ≤ s ∧ s < 64)
theorem set64_iff {s : Int} : set64 s = true ↔ 0 ≤ s ∧ s < 64 := by simp [set64]
theorem isSet6 (s : Int) : isSetB 6 s = set64 s := by
  rw [Bool.eq_iff_iff, isSetB_iff, set64_iff]
  constructor
  · rintro ⟨_, _, h1, h2⟩; exact ⟨h1, h2⟩
  · rintro ⟨h1, h2⟩; exact ⟨by omega, by omega, h1, h2⟩

set_option maxHeartbeats 1000000 in
set_option maxRecDepth 100000 in
theorem OnesCount64_c (s : Int) (w : World) (h0 : 0 ≤ s) (h1 : s < 64) : Calls Try.prog 183 #[.int .u64 s] w fun e w' => e = .returned (.int .i64 (pc s)) ∧ w = w' := by
  go_enter Try.func183, Try.ntmps183
  go_wp2_with fail
  go_ret
  refine ⟨ret_int ?_, rfl⟩
  obtain ⟨n, rfl⟩ := fin64 h0 h1
  revert n
  decide +kernel
set_option maxHeartbeats 1000000 in
theorem OnesCount_c (s : Int) (w : World) (h0 : 0 ≤ s) (h1 : s < 64) : Calls Try.prog 160 #[.int .u64 s] w fun e w' => e = .returned (.int .i64 (pc s)) ∧ w = w' := by
  go_enter Try.func160, Try.ntmps160
  go_wp2_with (go_at_call 183; refine (OnesCount64_c _ _ h0 h1).mono ?_; rintro e w' ⟨rfl, rfl⟩)
  go_ret
  exact ⟨rfl, rfl⟩
/-- What SizeOf gives. -/
def szB (s : Int) : Int := if set64 s = true then pc s else -1
set_option maxHeartbeats 1000000 in
theorem SizeOf_c (s : Int) (w : World) : Calls Try.prog 111 #[.int .i64 s] w fun e w' => e = .returned (.int .i64 (szB s)) ∧ w = w' := by
  have e6 := isSet6 s
  by_cases h : set64 s = true
  · obtain ⟨h0, h1⟩ := set64_iff.1 h
    have E : Hid (szB s = pc s) := by show _ = _; rw [szB, if_pos h]
    go_enter Try.func111, Try.ntmps111
    go_wp2_with (first | (go_at_call 125; refine (IsSet_c _ _ _).mono ?_; rintro e w' ⟨rfl, rfl⟩) | (go_at_call 160; refine (OnesCount_c _ _ h0 h1).mono ?_; rintro e w' ⟨rfl, rfl⟩))
    go_ret
    exact ⟨ret_int E.out.symm, rfl⟩
  · have h' : set64 s = false := by simpa using h
    have E : Hid (szB s = -1) := by show _ = _; rw [szB, if_neg h]
    clear h
    go_enter Try.func111, Try.ntmps111
    go_wp2_with (go_at_call 125; refine (IsSet_c _ _ _).mono ?_; rintro e w' ⟨rfl, rfl⟩)
    go_ret
    exact ⟨ret_int E.out.symm, rfl⟩
/-- At a set. -/
theorem SizeOf_s (s : Int) (w : World) (h0 : 0 ≤ s) (h1 : s < 64) : Calls Try.prog 111 #[.int .i64 s] w fun e w' => e = .returned (.int .i64 (pc s)) ∧ w = w' := by
  have h := SizeOf_c s w
  rw [szB, if_pos (set64_iff.2 ⟨h0, h1⟩)] at h
  exact h
theorem pc_step_fin : ∀ s : Fin 64, pc s.val = bits .and .i64 (s.val : Int) 1 + pc ((s.val : Int) / 2) := by decide +kernel
theorem and1_rng_fin : ∀ s : Fin 64, 0 ≤ bits .and .i64 (s.val : Int) 1 ∧ bits .and .i64 (s.val : Int) 1 ≤ 1 := by decide +kernel
set_option maxHeartbeats 1000000 in
theorem l2Size_c (s : Int) (w : World) (h0 : 0 ≤ s) (h1 : s < 64) : Calls Try.prog 106 #[.int .i64 s] w fun e w' => e = .returned (.int .i64 (pc s)) ∧ w = w' := by
  go_enter Try.func106, Try.ntmps106
  go_wp2_with fail
  go_loop [0, 3] (fun x n => ∃ (y c : Int), 0 ≤ y ∧ y < 64 ∧ 0 ≤ c ∧ c ≤ 6 ∧ x = .int .i64 y ∧ n = .int .i64 c ∧ c + pc y = pc s) (fun x _ => (intOf x).toNat)
  case atStart => exact ⟨s, 0, h0, h1, by omega, by omega, rfl, rfl, by omega⟩
  case round =>
    obtain ⟨y, c, hy0, hy1, hc0, hc1, rfl, rfl, hp⟩ := hrel
    have HP := hid hp; clear hp
    by_cases hy : 0 < y
    · obtain ⟨k, hk⟩ := fin64 hy0 hy1
      have e1 := pc_step_fin k
      have e2 := and1_rng_fin k
      rw [hk] at e1 e2
      have e3 := pc_rng (y / 2)
      have e4 := pc_rng s
      have e5 : c + bits .and .i64 y 1 + pc (y / 2) = pc s := by have := HP.out; omega
      have e6 : c + bits .and .i64 y 1 ≤ 6 := by omega
      have E5 := hid e5
      have E1 := hid e1
      clear e1 e3 e4 e5 hk
      obtain ⟨e7, e8⟩ := e2
      go_wp2_with fail
      go_round
      case rel => exact ⟨y / 2, _, by omega, by omega, by omega, e6, rfl, rfl, E5.out⟩
      case measure => simp [intOf]; omega
    · have hy' : y = 0 := by omega
      subst hy'
      have e1 : c = pc s := by have := HP.out; have h : pc 0 = 0 := rfl; omega
      have E1 := hid e1; clear e1 hy
      go_wp2_with fail
      go_ret
      exact ⟨ret_int E1.out, rfl⟩

end Go.Proofs.Ytjaofbdfhcgmeaa
