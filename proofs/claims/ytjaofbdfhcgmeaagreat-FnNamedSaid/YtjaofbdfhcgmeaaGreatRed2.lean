/-
  Elimination modulo a prime: the program's walk.
-/
import Derived.Test.YtjaofbdfhcgmeaaGreatRed
import Derived.Test.YtjaofbdfhcgmeaaGreatMLaws
import Derived.Test.YtjaofbdfhcgmeaaGreatCx
namespace Go.Proofs.YtjaofbdfhcgmeaaGreat
open Go.RowKit


end Go.Proofs.YtjaofbdfhcgmeaaGreat
