/-
  The laws' own helpers over complexes: copies, comparisons, marks.
-/
import Derived.Test.YtjaofbdfhcgmeaaCx
import Derived.Test.YtjaofbdfhcgmeaaLaws
import Derived.Deep.DeepCutAuto
namespace Go.Proofs.Ytjaofbdfhcgmeaa
open Go.RowKit


end Go.Proofs.Ytjaofbdfhcgmeaa
