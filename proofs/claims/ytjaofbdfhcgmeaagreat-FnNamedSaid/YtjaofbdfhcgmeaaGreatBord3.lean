/-
  The matrix of a border: the two functions.
-/
import Derived.Test.YtjaofbdfhcgmeaaGreatBord2
namespace Go.Proofs.YtjaofbdfhcgmeaaGreat
open Go.RowKit

def bmB (n : Int) (xs : List Int) (k : Int) : List (List Int) := if isC n xs = true ∧ 1 ≤ k ∧ k ≤ 6 then bordM (fosB n xs (k - 1)) (fosB n xs k) else []
theorem bmB_f {n : Int} {xs : List Int} {k : Int} (h : ¬ (isC n xs = true ∧ 1 ≤ k ∧ k ≤ 6)) : bmB n xs k = [] := if_neg h



end Go.Proofs.YtjaofbdfhcgmeaaGreat
