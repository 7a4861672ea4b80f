/- Package bail: what its functions do. -/
import Derived.Test.YtjcajidgaejhoaaMi01
namespace Go.Proofs.Ytjcajidgaejhoaa
open Go.RowKit
set_option linter.unusedSimpArgs false
set_option linter.unusedVariables false

end Go.Proofs.Ytjcajidgaejhoaa

