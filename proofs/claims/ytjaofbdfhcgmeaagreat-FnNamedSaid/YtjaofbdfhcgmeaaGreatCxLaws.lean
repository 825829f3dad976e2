/-
  The laws' own helpers over complexes: copies, comparisons, marks.
-/
import Derived.Test.YtjaofbdfhcgmeaaGreatCx
import Derived.Test.YtjaofbdfhcgmeaaGreatLaws
import Derived.Deep.DeepCutAuto
namespace Go.Proofs.YtjaofbdfhcgmeaaGreat
open Go.RowKit


end Go.Proofs.YtjaofbdfhcgmeaaGreat
