/- tansyref5.Subset: is each number of one list in another one? -/
import Derived.Test.YtbnhhmejlglbcaaMg24
import Derived.Test.YtbnhhmejlglbcaaMg04
import Derived.IntWalk
import Derived.BigQuiet
namespace Go.Proofs.Ytbnhhmejlglbcaa
open Go.RowKit
set_option linter.unusedSimpArgs false
set_option linter.unusedVariables false

end Go.Proofs.Ytbnhhmejlglbcaa

