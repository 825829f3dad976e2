/-
  Remainders of a matrix; ranks.
-/
import Derived.Test.YtjaofbdfhcgmeaaGreatRed3
namespace Go.Proofs.YtjaofbdfhcgmeaaGreat
open Go.RowKit

/-- All rows have W places. -/
def Even (W : Nat) (M : List (List Int)) : Prop := ∀ k, k < M.length → (gr M k).length = W
theorem modM_succ {p : Int} {M : List (List Int)} {j : Nat} (h : j < M.length) : modM p (M.take (j + 1)) = modM p (M.take j) ++ [modRow p (gr M j)] := by
  rw [take_succ_gr h, modM, List.map_append]; rfl



end Go.Proofs.YtjaofbdfhcgmeaaGreat
