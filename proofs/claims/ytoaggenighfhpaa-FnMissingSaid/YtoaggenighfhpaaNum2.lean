/-
  Complements of sets, remainders and inverses modulo a prime.
-/
import Derived.Test.YtoaggenighfhpaaNum
namespace Go.Proofs.Ytoaggenighfhpaa
open Go.RowKit

/-- The complement, for a set of n points. -/
def complB (n s : Int) : Int := if isSetB n s = true then (2 : Int) ^ n.toNat - 1 - s else -1

theorem compl_bits : ∀ n : Fin 7, ∀ s : Fin 64, s.val < 2 ^ n.val → bits .andNot .i64 ((2 : Int) ^ n.val - 1) (s.val : Int) = (2 : Int) ^ n.val - 1 - s.val := by decide +kernel

set_option maxHeartbeats 1000000 in
theorem ComplementOf_c (n s : Int) (w : World) : Calls Try.prog 119 #[.int .i64 n, .int .i64 s] w fun e w' => e = .returned (.int .i64 (complB n s)) ∧ w = w' := by
  by_cases h : isSetB n s = true
  · have e : complB n s = (2 : Int) ^ n.toNat - 1 - s := by rw [complB, if_pos h]
    obtain ⟨h0, h6, hs0, hs1⟩ := isSetB_iff.1 h
    have hb := compl_bits ⟨n.toNat, by omega⟩ ⟨s.toNat, by
      have : (2 : Int) ^ n.toNat ≤ 64 := by
        rcases six h0 h6 with rfl | rfl | rfl | rfl | rfl | rfl | rfl <;> decide
      omega⟩ (by
      show s.toNat < 2 ^ n.toNat
      have : ((2 : Int) ^ n.toNat) = ((2 ^ n.toNat : Nat) : Int) := by simp
      omega)
    simp only [Int.toNat_of_nonneg hs0] at hb
    have HB := hid hb
    have E := hid e
    clear e hb
    rcases six h0 h6 with rfl | rfl | rfl | rfl | rfl | rfl | rfl
    all_goals
      go_enter Try.func119, Try.ntmps119
      go_wp2_with (go_at_call 113; refine (IsSet_c _ _ _).mono ?_; rintro e w' ⟨rfl, rfl⟩)
      go_ret
      exact ⟨ret_int (by rw [E.out, ← HB.out]; rfl), rfl⟩
  · have h' : isSetB n s = false := by simpa using h
    have e : complB n s = -1 := by rw [complB, if_neg h]
    have E := hid e; clear e h
    go_enter Try.func119, Try.ntmps119
    go_wp2_with (go_at_call 113; refine (IsSet_c _ _ _).mono ?_; rintro e w' ⟨rfl, rfl⟩)
    go_ret
    exact ⟨ret_int E.out.symm, rfl⟩

set_option maxHeartbeats 1000000 in
theorem sComplementOf_c (n s : Int) (w : World) : Calls Try.prog 98 #[.int .i64 n, .int .i64 s] w fun e w' => e = .returned (.int .i64 (complB n s)) ∧ w = w' := by
  by_cases h : isSetB n s = true
  · have e : complB n s = (2 : Int) ^ n.toNat - 1 - s := by rw [complB, if_pos h]
    obtain ⟨h0, h6, hs0, hs1⟩ := isSetB_iff.1 h
    have E := hid e
    have hs2 : s < 64 := by
      have : (2 : Int) ^ n.toNat ≤ 64 := by
        rcases six h0 h6 with rfl | rfl | rfl | rfl | rfl | rfl | rfl <;> decide
      omega
    clear e hs1
    rcases six h0 h6 with rfl | rfl | rfl | rfl | rfl | rfl | rfl
    all_goals
      go_enter Try.func98, Try.ntmps98
      go_wp2_with (go_at_call 86; refine (sIsSet_c _ _ _).mono ?_; rintro e w' ⟨rfl, rfl⟩)
      go_ret
      exact ⟨ret_int (by rw [E.out]; simp), rfl⟩
  · have h' : isSetB n s = false := by simpa using h
    have e : complB n s = -1 := by rw [complB, if_neg h]
    have E := hid e; clear e h
    go_enter Try.func98, Try.ntmps98
    go_wp2_with (go_at_call 86; refine (sIsSet_c _ _ _).mono ?_; rintro e w' ⟨rfl, rfl⟩)
    go_ret
    exact ⟨ret_int E.out.symm, rfl⟩

/-! ### Remainders -/

theorem emod_of_tmod {a p : Int} (hp : 0 < p) : a % p = if a.tmod p < 0 then a.tmod p + p else a.tmod p := by
  have h1 := Int.tmod_eq_emod (a := a) (b := p)
  have h2 := Int.emod_nonneg a (show p ≠ 0 by omega)
  have h3 := Int.emod_lt_of_pos a hp
  have h4 : (p.natAbs : Int) = p := by omega
  split at h1 <;> split <;> omega

theorem tmod_bd {a p : Int} (hp : 0 < p) : -p < a.tmod p ∧ a.tmod p < p := by
  have h1 := Int.tmod_eq_emod (a := a) (b := p)
  have h2 := Int.emod_nonneg a (show p ≠ 0 by omega)
  have h3 := Int.emod_lt_of_pos a hp
  have h4 : (p.natAbs : Int) = p := by omega
  split at h1
  · omega
  · rename_i hn
    have : a % p ≠ 0 := fun h => hn (.inr (Int.dvd_of_emod_eq_zero h))
    omega


/-- The inverse of a modulo a prime; 0 where there is none. -/
def invStep (a p b : Int) : Bool := decide (a % p * b % p = 1)
def invFrom (a p : Int) : Nat → Int → Int
  | 0, _ => 0
  | n + 1, b => if invStep a p b = true then b else invFrom a p n (b + 1)
def invB (a p : Int) : Int := if primeB p = true then invFrom a p (p.toNat - 1) 1 else 0


/-! ### Numbers of monomials -/

def cmB (n d : Int) : Int := if (1 ≤ n ∧ n ≤ 6) ∧ (0 ≤ d ∧ d ≤ 20) then chW (n + d - 1) d else -1


end Go.Proofs.Ytoaggenighfhpaa
