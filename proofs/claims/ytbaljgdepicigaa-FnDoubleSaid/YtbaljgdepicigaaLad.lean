/-
  Contracts of the functions on ladders.
-/
import Derived.Test.YtbaljgdepicigaaBase
import Derived.Test.YtbaljgdepicigaaMathA
import Derived.Test.YtbaljgdepicigaaLib
import Derived.Test.YtbaljgdepicigaaAid
namespace Go.Proofs.Ytbaljgdepicigaa
open Go.RowKit
set_option linter.unusedVariables false

-- ladderOk
def ladderOk (xs : List Int) : Prop := (1 ≤ (xs.length : Int) ∧ (xs.length : Int) ≤ 8) ∧ isOrder xs
instance (xs : List Int) : Decidable (ladderOk xs) := by unfold ladderOk; infer_instance

end Go.Proofs.Ytbaljgdepicigaa
