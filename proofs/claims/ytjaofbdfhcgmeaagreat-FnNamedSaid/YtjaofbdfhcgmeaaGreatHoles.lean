/-
  Holes of a complex modulo a prime.
-/
import Derived.Test.YtjaofbdfhcgmeaaGreatRed4
import Derived.Test.YtjaofbdfhcgmeaaGreatBord2
namespace Go.Proofs.YtjaofbdfhcgmeaaGreat
open Go.RowKit

/-- The rank of the border of the faces with k points. -/
noncomputable def hRk (P : Int → Bool) (p : Int) (k : Nat) : Int := if 1 ≤ k ∧ k < sizesN P then rankR p (bordM (rowTo P ((k : Int) - 1) 64) (rowTo P (k : Int) 64)) else 0
noncomputable def holeAt (P : Int → Bool) (p : Int) (j : Nat) : Int := ((rowTo P (j : Int) 64).length : Int) - hRk P p j - hRk P p (j + 1)
noncomputable def holeTo (P : Int → Bool) (p : Int) (k : Nat) : List Int := (List.range k).map (holeAt P p)
noncomputable def ranksTo (P : Int → Bool) (p : Int) (k : Nat) : List Int := (List.range (sizesN P + 1)).map fun j => if j < k then hRk P p j else 0
noncomputable def holesB (n : Int) (xs : List Int) (p : Int) : List Int := if isC n xs = true ∧ primeB p = true then holeTo (dn (mem xs)) p (sizesN (dn (mem xs))) else []
theorem rankR_rng (p : Int) (M : List (List Int)) : 0 ≤ rankR p M ∧ rankR p M ≤ M.length := by
  have h := red_piv p (modM p M) (gr M 0).length
  rw [modM_len] at h
  rw [rankR, pivs]; omega
theorem hRk_rng (P : Int → Bool) (p : Int) (k : Nat) : 0 ≤ hRk P p k ∧ hRk P p k ≤ 64 := by
  unfold hRk
  split
  · have h := rankR_rng p (bordM (rowTo P ((k : Int) - 1) 64) (rowTo P (k : Int) 64))
    have h2 := rowTo_len P ((k : Int) - 1) 64
    rw [bordM_len] at h; omega
  · omega
theorem holeAt_rng (P : Int → Bool) (p : Int) (j : Nat) : -128 ≤ holeAt P p j ∧ holeAt P p j ≤ 64 := by
  have h1 := hRk_rng P p j
  have h2 := hRk_rng P p (j + 1)
  have h3 := rowTo_len P (j : Int) 64
  unfold holeAt; omega
theorem holeTo_len (P : Int → Bool) (p : Int) (k : Nat) : (holeTo P p k).length = k := by simp [holeTo]
theorem holeTo_gi {P : Int → Bool} {p : Int} {k j : Nat} (h : j < k) : gi (holeTo P p k) j = holeAt P p j := by simp [gi, holeTo, List.getD, h]
theorem holeTo_succ (P : Int → Bool) (p : Int) (k : Nat) : holeTo P p (k + 1) = holeTo P p k ++ [holeAt P p k] := by simp [holeTo, List.range_succ]
theorem ranksTo_len (P : Int → Bool) (p : Int) (k : Nat) : (ranksTo P p k).length = sizesN P + 1 := by simp [ranksTo]
theorem ranksTo_gi {P : Int → Bool} {p : Int} {k j : Nat} (h : j < sizesN P + 1) : gi (ranksTo P p k) j = if j < k then hRk P p j else 0 := by simp [gi, ranksTo, List.getD, h]
theorem hRk_zero (P : Int → Bool) (p : Int) : hRk P p 0 = 0 := by rw [hRk, if_neg (by omega)]
theorem hRk_out {P : Int → Bool} {k : Nat} (p : Int) (h : sizesN P ≤ k) : hRk P p k = 0 := by rw [hRk, if_neg (by omega)]
theorem ranksTo_one (P : Int → Bool) (p : Int) : ranksTo P p 1 = List.replicate (sizesN P + 1) 0 := giExt (by simp [ranksTo]) fun k hk => by
  rw [ranksTo_len] at hk
  rw [ranksTo_gi hk]
  have : gi (List.replicate (sizesN P + 1) 0) k = 0 := by simp [gi, List.getD, hk]
  rw [this]
  split
  · rw [show k = 0 by omega, hRk_zero]
  · rfl
theorem ranksTo_succ {P : Int → Bool} {p : Int} {k : Nat} (h : k < sizesN P + 1) : (ranksTo P p k).set k (hRk P p k) = ranksTo P p (k + 1) := giExt (by simp [ranksTo]) fun j hj => by
  have hj' : j < sizesN P + 1 := by simpa [ranksTo] using hj
  rw [giSet (by rw [ranksTo_len]; exact h), ranksTo_gi hj', ranksTo_gi hj']
  by_cases e : j = k
  · subst e; rw [if_pos rfl, if_pos (by omega)]
  · rw [if_neg e]
    by_cases h2 : j < k
    · rw [if_pos h2, if_pos (by omega)]
    · rw [if_neg h2, if_neg (by omega)]
theorem ranksTo_end {P : Int → Bool} {p : Int} {k j : Nat} (hk : sizesN P ≤ k) (hj : j < sizesN P + 1) : gi (ranksTo P p k) j = hRk P p j := by
  rw [ranksTo_gi hj]
  split
  · rfl
  · rw [hRk_out p (by omega)]
theorem bordM_even (rs cs : List Int) : Even cs.length (bordM rs cs) := fun k hk => by
  rw [bordM_len] at hk
  rw [bordM_gr hk, bRow_len]
theorem row_facts (P : Int → Bool) (k : Int) : ∀ x ∈ rowTo P k 64, 0 ≤ x ∧ x < 64 ∧ pc x = k := fun x h => by
  have := mem_rowTo.1 h; omega


end Go.Proofs.YtjaofbdfhcgmeaaGreat
