/-
  Complements of sets, remainders and inverses modulo a prime.
-/
import Derived.Test.YtjaofbdfhcgmeaaNum
namespace Go.Proofs.Ytjaofbdfhcgmeaa
open Go.RowKit

/-- The complement, for a set of n points. -/
def complB (n s : Int) : Int := if isSetB n s = true then (2 : Int) ^ n.toNat - 1 - s else -1

theorem compl_bits : ∀ n : Fin 7, ∀ s : Fin 64, s.val < 2 ^ n.val → bits .andNot .i64 ((2 : Int) ^ n.val - 1) (s.val : Int) = (2 : Int) ^ n.val - 1 - s.val := by decide +kernel

set_option maxHeartbeats 1000000 in
theorem ComplementOf_c (n s : Int) (w : World) : Calls Try.prog 34 #[.int .i64 n, .int .i64 s] w fun e w' => e = .returned (.int .i64 (complB n s)) ∧ w = w' := by
  by_cases h : isSetB n s = true
  · have e : complB n s = (2 : Int) ^ n.toNat - 1 - s := by rw [complB, if_pos h]
    obtain ⟨h0, h6, hs0, hs1⟩ := isSetB_iff.1 h
    have hb := compl_bits ⟨n.toNat, by omega⟩ ⟨s.toNat, by
      have : (2 : Int) ^ n.toNat ≤ 64 := by
        rcases six h0 h6 with rfl | rfl | rfl | rfl | rfl | rfl | rfl <;> decide
      omega⟩ (by
      show s.toNat < 2 ^ n.toNat
      have : ((2 : Int) ^ n.toNat) = ((2 ^ n.toNat : Nat) : Int) := by simp
      omega)
    simp only [Int.toNat_of_nonneg hs0] at hb
    have HB := hid hb
    have E := hid e
    clear e hb
    rcases six h0 h6 with rfl | rfl | rfl | rfl | rfl | rfl | rfl
    all_goals
      go_enter Try.func34, Try.ntmps34
      go_wp2_with (go_at_call 125; refine (IsSet_c _ _ _).mono ?_; rintro e w' ⟨rfl, rfl⟩)
      go_ret
      exact ⟨ret_int (by rw [E.out, ← HB.out]; rfl), rfl⟩
  · have h' : isSetB n s = false := by simpa using h
    have e : complB n s = -1 := by rw [complB, if_neg h]
    have E := hid e; clear e h
    go_enter Try.func34, Try.ntmps34
    go_wp2_with (go_at_call 125; refine (IsSet_c _ _ _).mono ?_; rintro e w' ⟨rfl, rfl⟩)
    go_ret
    exact ⟨ret_int E.out.symm, rfl⟩

set_option maxHeartbeats 1000000 in
theorem sComplementOf_c (n s : Int) (w : World) : Calls Try.prog 35 #[.int .i64 n, .int .i64 s] w fun e w' => e = .returned (.int .i64 (complB n s)) ∧ w = w' := by
  by_cases h : isSetB n s = true
  · have e : complB n s = (2 : Int) ^ n.toNat - 1 - s := by rw [complB, if_pos h]
    obtain ⟨h0, h6, hs0, hs1⟩ := isSetB_iff.1 h
    have E := hid e
    have hs2 : s < 64 := by
      have : (2 : Int) ^ n.toNat ≤ 64 := by
        rcases six h0 h6 with rfl | rfl | rfl | rfl | rfl | rfl | rfl <;> decide
      omega
    clear e hs1
    rcases six h0 h6 with rfl | rfl | rfl | rfl | rfl | rfl | rfl
    all_goals
      go_enter Try.func35, Try.ntmps35
      go_wp2_with (go_at_call 126; refine (sIsSet_c _ _ _).mono ?_; rintro e w' ⟨rfl, rfl⟩)
      go_ret
      exact ⟨ret_int (by rw [E.out]; simp), rfl⟩
  · have h' : isSetB n s = false := by simpa using h
    have e : complB n s = -1 := by rw [complB, if_neg h]
    have E := hid e; clear e h
    go_enter Try.func35, Try.ntmps35
    go_wp2_with (go_at_call 126; refine (sIsSet_c _ _ _).mono ?_; rintro e w' ⟨rfl, rfl⟩)
    go_ret
    exact ⟨ret_int E.out.symm, rfl⟩

/-! ### Remainders -/

theorem emod_of_tmod {a p : Int} (hp : 0 < p) : a % p = if a.tmod p < 0 then a.tmod p + p else a.tmod p := by
  have h1 := Int.tmod_eq_emod (a := a) (b := p)
  have h2 := Int.emod_nonneg a (show p ≠ 0 by omega)
  have h3 := Int.emod_lt_of_pos a hp
  have h4 : (p.natAbs : Int) = p := by omega
  split at h1 <;> split <;> omega

theorem tmod_bd {a p : Int} (hp : 0 < p) : -p < a.tmod p ∧ a.tmod p < p := by
  have h1 := Int.tmod_eq_emod (a := a) (b := p)
  have h2 := Int.emod_nonneg a (show p ≠ 0 by omega)
  have h3 := Int.emod_lt_of_pos a hp
  have h4 : (p.natAbs : Int) = p := by omega
  split at h1
  · omega
  · rename_i hn
    have : a % p ≠ 0 := fun h => hn (.inr (Int.dvd_of_emod_eq_zero h))
    omega

theorem restMod_c (a p : Int) (w : World) (hp : p = 2 ∨ p = 3 ∨ p = 5) : Calls Try.prog 150 #[.int .i64 a, .int .i64 p] w fun e w' => e = .returned (.int .i64 (a % p)) ∧ w = w' := by
  have e := emod_of_tmod (a := a) (p := p) (by omega)
  have hbd := tmod_bd (a := a) (p := p) (by omega)
  have hlo : -5 < a.tmod p := by omega
  have hhi : a.tmod p < 5 := by omega
  clear hbd
  by_cases hn : a.tmod p < 0
  · rw [if_pos hn] at e
    have E := hid e; clear e
    rcases hp with rfl | rfl | rfl
    all_goals
      go_enter Try.func150, Try.ntmps150
      go_wp2_with fail
      go_ret
      exact ⟨ret_int E.out.symm, rfl⟩
  · rw [if_neg hn] at e
    have E := hid e; clear e
    rcases hp with rfl | rfl | rfl
    all_goals
      go_enter Try.func150, Try.ntmps150
      go_wp2_with fail
      go_ret
      exact ⟨ret_int E.out.symm, rfl⟩
theorem l13Mod_c (a p : Int) (w : World) (hp : p = 2 ∨ p = 3 ∨ p = 5) : Calls Try.prog 151 #[.int .i64 a, .int .i64 p] w fun e w' => e = .returned (.int .i64 (a % p)) ∧ w = w' := by
  have e : a % p = (a.tmod p + p) % p := by
    have e := emod_of_tmod (a := a) (p := p) (by omega)
    rcases hp with rfl | rfl | rfl <;> omega
  have hbd := tmod_bd (a := a) (p := p) (by omega)
  have hlo : -p < a.tmod p := hbd.1
  have hhi : a.tmod p < p := hbd.2
  clear hbd
  have E := hid e; clear e
  rcases hp with rfl | rfl | rfl
  all_goals
    go_enter Try.func151, Try.ntmps151
    go_wp2_with fail
    go_ret
    exact ⟨ret_int E.out.symm, rfl⟩

/-- The inverse of a modulo a prime; 0 where there is none. -/
def invStep (a p b : Int) : Bool := decide (a % p * b % p = 1)
def invFrom (a p : Int) : Nat → Int → Int
  | 0, _ => 0
  | n + 1, b => if invStep a p b = true then b else invFrom a p n (b + 1)
def invB (a p : Int) : Int := if primeB p = true then invFrom a p (p.toNat - 1) 1 else 0

set_option maxHeartbeats 1000000 in
theorem InverseMod_c (a p : Int) (w : World) : Calls Try.prog 79 #[.int .i64 a, .int .i64 p] w fun e w' => e = .returned (.int .i64 (invB a p)) ∧ w = w' := by
  by_cases h : primeB p = true
  · have hp := primeB_iff.1 h
    have e : invB a p = invFrom a p (p.toNat - 1) 1 := by rw [invB, if_pos h]
    have E := hid e; clear e
    have H := hid hp
    have hp2 : 2 ≤ p := by omega
    have hp5 : p ≤ 5 := by omega
    have hr0 : 0 ≤ a % p := Int.emod_nonneg a (by omega)
    have hr1 : a % p < p := Int.emod_lt_of_pos a (by omega)
    clear hp
    generalize hr : a % p = r at *
    have HR := hid hr; clear hr
    go_enter Try.func79, Try.ntmps79
    go_wp2_with (first | (go_at_call 81; refine (IsFieldPrime_c _ _).mono ?_; rintro e w' ⟨rfl, rfl⟩) | (go_at_call 150; refine (restMod_c _ _ _ H.out).mono ?_; rintro e w' ⟨rfl, rfl⟩; rw [HR.out]))
    go_loop [6] (fun i => ∃ (b : Nat), 1 ≤ b ∧ (b : Int) ≤ p ∧ i = .int .i64 b ∧ invFrom a p (p.toNat - 1) 1 = invFrom a p (p.toNat - b) b) (fun i => p.toNat - (intOf i).toNat)
    case atStart => exact ⟨1, by omega, by omega, rfl, rfl⟩
    case round =>
      obtain ⟨b, hb1, hb2, rfl, hi⟩ := hrel
      have HI := hid hi; clear hi
      by_cases hlt : (b : Int) < p
      · have e1 : p.toNat - b = (p.toNat - (b + 1)) + 1 := by omega
        have e2 := HI.out
        rw [e1, invFrom] at e2
        have hm0 : 0 ≤ r * (b : Int) := Int.mul_nonneg hr0 (by omega)
        have hm1 : r * (b : Int) ≤ 5 * 5 := Int.mul_le_mul (by omega) (by omega) (by omega) (by omega)
        by_cases hs : r * (b : Int) % p = 1
        · have hs' : (r * (b : Int) % p == 1) = true := by simp [hs]
          have e3 : invStep a p b = true := by rw [invStep, HR.out]; simp [hs]
          rw [if_pos e3] at e2
          have E2 := hid e2
          clear e1 e2 e3 hs
          go_wp2_with fail
          go_ret
          exact ⟨ret_int (by rw [E.out, E2.out]), rfl⟩
        · have hs' : (r * (b : Int) % p == 1) = false := by simp [hs]
          have e3 : invStep a p b = false := by rw [invStep, HR.out]; simp [hs]
          rw [e3, if_neg (by simp)] at e2
          have E2 := hid e2
          clear e1 e2 e3 hs
          go_wp2_with fail
          go_round
          case rel => exact ⟨b + 1, by omega, by omega, by go_num, E2.out⟩
          case measure => simp [intOf]; omega
      · have e1 : p.toNat - b = 0 := by omega
        have e2 := HI.out
        rw [e1, invFrom] at e2
        have E2 := hid e2
        clear e1 e2
        go_wp2_with fail
        go_ret
        exact ⟨ret_int (by rw [E.out, E2.out]), rfl⟩
  · have h' : primeB p = false := by simpa using h
    have e : invB a p = 0 := by rw [invB, if_neg h]
    have E := hid e; clear e h
    go_enter Try.func79, Try.ntmps79
    go_wp2_with (go_at_call 81; refine (IsFieldPrime_c _ _).mono ?_; rintro e w' ⟨rfl, rfl⟩)
    go_ret
    exact ⟨ret_int E.out.symm, rfl⟩
set_option maxHeartbeats 1000000 in
theorem sInverseMod_c (a p : Int) (w : World) : Calls Try.prog 80 #[.int .i64 a, .int .i64 p] w fun e w' => e = .returned (.int .i64 (invB a p)) ∧ w = w' := by
  by_cases h : primeB p = true
  · have hp := primeB_iff.1 h
    have e : invB a p = invFrom a p (p.toNat - 1) 1 := by rw [invB, if_pos h]
    have E := hid e; clear e
    have H := hid hp
    have hp2 : 2 ≤ p := by omega
    have hp5 : p ≤ 5 := by omega
    have hr0 : 0 ≤ a % p := Int.emod_nonneg a (by omega)
    have hr1 : a % p < p := Int.emod_lt_of_pos a (by omega)
    clear hp
    generalize hr : a % p = r at *
    have HR := hid hr; clear hr
    go_enter Try.func80, Try.ntmps80
    go_wp2_with (go_at_call 82; refine (sIsFieldPrime_c _ _).mono ?_; rintro e w' ⟨rfl, rfl⟩)
    go_loop [5] (fun i => ∃ (b : Nat), 1 ≤ b ∧ (b : Int) ≤ p ∧ i = .int .i64 b ∧ invFrom a p (p.toNat - 1) 1 = invFrom a p (p.toNat - b) b) (fun i => p.toNat - (intOf i).toNat)
    case atStart => exact ⟨1, by omega, by omega, rfl, rfl⟩
    case round =>
      obtain ⟨b, hb1, hb2, rfl, hi⟩ := hrel
      have HI := hid hi; clear hi
      by_cases hlt : (b : Int) < p
      · have e1 : p.toNat - b = (p.toNat - (b + 1)) + 1 := by omega
        have e2 := HI.out
        rw [e1, invFrom] at e2
        have hm0 : 0 ≤ r * (b : Int) := Int.mul_nonneg hr0 (by omega)
        have hm1 : r * (b : Int) ≤ 5 * 5 := Int.mul_le_mul (by omega) (by omega) (by omega) (by omega)
        by_cases hs : r * (b : Int) % p = 1
        · have hs' : (r * (b : Int) % p == 1) = true := by simp [hs]
          have e3 : invStep a p b = true := by rw [invStep, HR.out]; simp [hs]
          rw [if_pos e3] at e2
          have E2 := hid e2
          clear e1 e2 e3 hs
          go_wp2_with (go_at_call 151; refine (l13Mod_c _ _ _ H.out).mono ?_; rintro e w' ⟨rfl, rfl⟩; rw [HR.out])
          go_ret
          exact ⟨ret_int (by rw [E.out, E2.out]), rfl⟩
        · have hs' : (r * (b : Int) % p == 1) = false := by simp [hs]
          have e3 : invStep a p b = false := by rw [invStep, HR.out]; simp [hs]
          rw [e3, if_neg (by simp)] at e2
          have E2 := hid e2
          clear e1 e2 e3 hs
          go_wp2_with (go_at_call 151; refine (l13Mod_c _ _ _ H.out).mono ?_; rintro e w' ⟨rfl, rfl⟩; rw [HR.out])
          go_round
          case rel => exact ⟨b + 1, by omega, by omega, by go_num, E2.out⟩
          case measure => simp [intOf]; omega
      · have e1 : p.toNat - b = 0 := by omega
        have e2 := HI.out
        rw [e1, invFrom] at e2
        have E2 := hid e2
        clear e1 e2
        go_wp2_with fail
        go_ret
        exact ⟨ret_int (by rw [E.out, E2.out]), rfl⟩
  · have h' : primeB p = false := by simpa using h
    have e : invB a p = 0 := by rw [invB, if_neg h]
    have E := hid e; clear e h
    go_enter Try.func80, Try.ntmps80
    go_wp2_with (go_at_call 82; refine (sIsFieldPrime_c _ _).mono ?_; rintro e w' ⟨rfl, rfl⟩)
    go_ret
    exact ⟨ret_int E.out.symm, rfl⟩

/-! ### Numbers of monomials -/

def cmB (n d : Int) : Int := if (1 ≤ n ∧ n ≤ 6) ∧ (0 ≤ d ∧ d ≤ 20) then chW (n + d - 1) d else -1


end Go.Proofs.Ytjaofbdfhcgmeaa
