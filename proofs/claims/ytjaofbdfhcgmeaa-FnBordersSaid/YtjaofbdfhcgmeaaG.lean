/-
  What is told from the h numbers: the last one, the g numbers, symmetry.
-/
import Derived.Test.YtjaofbdfhcgmeaaH
namespace Go.Proofs.Ytjaofbdfhcgmeaa
open Go.RowKit

def topB (n : Int) (xs : List Int) : Int := gi (hB n xs) ((hB n xs).length - 1)
theorem gi_nil (k : Nat) : gi [] k = 0 := by simp [gi]


/-- The first entry, and the steps up to place k. -/
def gTo (h : List Int) : Nat → List Int
  | 0 => [1]
  | k + 1 => gTo h k ++ [gi h (k + 1) - gi h k]
theorem gTo_len (h : List Int) (k : Nat) : (gTo h k).length = k + 1 := by
  induction k with
  | zero => rfl
  | succ k ih => rw [gTo, List.length_append, ih]; rfl
def gB (n : Int) (xs : List Int) : List Int := if (hB n xs).length = 0 then [] else gTo (hB n xs) (((hB n xs).length - 1) / 2)
theorem gB_len (n : Int) (xs : List Int) : (gB n xs).length ≤ 7 := by
  have := hB_len n xs
  unfold gB
  split
  · simp
  · rw [gTo_len]; omega


end Go.Proofs.Ytjaofbdfhcgmeaa
