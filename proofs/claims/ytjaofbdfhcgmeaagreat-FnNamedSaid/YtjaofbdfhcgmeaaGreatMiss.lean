/-
  The least sets that are no faces.
-/
import Derived.Test.YtjaofbdfhcgmeaaGreatCy
namespace Go.Proofs.YtjaofbdfhcgmeaaGreat
open Go.RowKit

/-- The numbers below k with Q, in the order of numbers. -/
def numTo (Q : Int → Bool) : Nat → List Int
  | 0 => []
  | k + 1 => if Q (k : Int) = true then numTo Q k ++ [(k : Int)] else numTo Q k
theorem numTo_len (Q : Int → Bool) (k : Nat) : (numTo Q k).length ≤ k := by
  induction k with
  | zero => simp [numTo]
  | succ k ih => rw [numTo]; split <;> (try simp) <;> omega
theorem mem_numTo {Q : Int → Bool} {k : Nat} {x : Int} : x ∈ numTo Q k ↔ 0 ≤ x ∧ x < k ∧ Q x = true := by
  induction k with
  | zero => simp only [numTo, List.not_mem_nil, false_iff]; omega
  | succ k ih =>
    rw [numTo]
    by_cases h : Q (k : Int) = true
    · rw [if_pos h, List.mem_append, ih, List.mem_singleton]
      constructor
      · rintro (⟨a, b, c⟩ | rfl)
        · exact ⟨a, by omega, c⟩
        · exact ⟨by omega, by omega, h⟩
      · rintro ⟨a, b, c⟩
        by_cases hx : x = k
        · exact .inr hx
        · exact .inl ⟨a, by omega, c⟩
    · rw [if_neg h, ih]
      constructor
      · rintro ⟨a, b, c⟩; exact ⟨a, by omega, c⟩
      · rintro ⟨a, b, c⟩
        have hx : x ≠ k := by rintro rfl; exact h c
        exact ⟨a, by omega, c⟩
theorem numTo_rng {Q : Int → Bool} : ∀ x ∈ numTo Q 64, 0 ≤ x ∧ x < 64 := fun x h => by have := mem_numTo.1 h; omega
theorem mem_numTo64 (Q : Int → Bool) {s : Int} (h0 : 0 ≤ s) (h1 : s < 64) : mem (numTo Q 64) s = Q s := bool_ext (by
  rw [mem_iff, mem_numTo]
  exact ⟨fun h => h.2.2, fun h => ⟨h0, by omega, h⟩⟩)
def notP (P : Int → Bool) (s : Int) : Bool := !P s
def missB (n : Int) (xs : List Int) : List Int := if IsC n xs then minL (upToP (pw n) (notP (dn (mem xs)))) else []
theorem missB_len (n : Int) (xs : List Int) : (missB n xs).length ≤ 448 := by
  unfold missB; split
  · exact minL_len _
  · simp
theorem missB_rng {n : Int} {xs : List Int} : ∀ x ∈ missB n xs, 0 ≤ x ∧ x < 64 := by
  unfold missB; split
  · exact fun x h => minL_rng h
  · simp




end Go.Proofs.YtjaofbdfhcgmeaaGreat
