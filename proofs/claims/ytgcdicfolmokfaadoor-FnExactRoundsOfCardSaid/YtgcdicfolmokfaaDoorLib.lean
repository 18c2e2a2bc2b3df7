/-
  Contracts of Go's library functions and of the smallest functions of the program.
-/
import Derived.Test.YtgcdicfolmokfaaDoorBase
import Derived.Test.YtgcdicfolmokfaaDoorMathA
namespace Go.Proofs.YtgcdicfolmokfaaDoor
open Go.RowKit
set_option linter.unusedVariables false

end Go.Proofs.YtgcdicfolmokfaaDoor
