/-
  Contracts of the functions that order players by points.
-/
import Derived.Laws.ShiftsVar
import Derived.Deep.QuietTactic
import Derived.Great.Walk
import Derived.Deep.RegionWith
import Derived.Test.YtbaljgdepicigaaDoorBase
import Derived.Test.YtbaljgdepicigaaDoorMgA
import Derived.Test.YtbaljgdepicigaaDoorLib
import Derived.Test.YtbaljgdepicigaaDoorAid
import Derived.Test.YtbaljgdepicigaaDoorStep
import Derived.Test.YtbaljgdepicigaaDoorGrid
import Derived.Test.YtbaljgdepicigaaDoorLibF
import Derived.Test.YtbaljgdepicigaaDoorMgB
import Derived.Test.YtbaljgdepicigaaDoorDblB
namespace Go.Proofs.YtbaljgdepicigaaDoor
open Go.RowKit
set_option linter.unusedVariables false

-- SwissOrder words
def swissOrder (xs : List Int) : List Int := if isSwiss xs then orderO xs xs.length else []
theorem swissOrder_len (xs : List Int) : (swissOrder xs).length ≤ 8 := by
  unfold swissOrder
  split
  · rename_i h; rw [orderO_len]; exact h.1.2
  · simp

end Go.Proofs.YtbaljgdepicigaaDoor
