/-
  The least bracket that a player wins: the reference's answer is the first one in order.
-/
import Derived.Deep.RegionHeld3
import Derived.Laws.ShiftsVar
import Derived.Test.YtbaljgdepicigaaDoorBase
import Derived.Test.YtbaljgdepicigaaDoorMgA
import Derived.Test.YtbaljgdepicigaaDoorLib
import Derived.Test.YtbaljgdepicigaaDoorAid
import Derived.Test.YtbaljgdepicigaaDoorStep
import Derived.Test.YtbaljgdepicigaaDoorGrid
import Derived.Test.YtbaljgdepicigaaDoorLibF
import Derived.Test.YtbaljgdepicigaaDoorMgB
import Derived.Test.YtbaljgdepicigaaDoorSeed
import Derived.Test.YtbaljgdepicigaaDoorTour
import Derived.Test.YtbaljgdepicigaaDoorTourB
import Derived.Test.YtbaljgdepicigaaDoorBrack
import Derived.Test.YtbaljgdepicigaaDoorBrackB
import Derived.Test.YtbaljgdepicigaaDoorDblB
import Derived.Test.YtbaljgdepicigaaDoorPop
import Derived.Test.YtbaljgdepicigaaDoorWin
import Derived.Test.YtbaljgdepicigaaDoorWinC
import Derived.Test.YtbaljgdepicigaaDoorWinD
import Derived.Test.YtbaljgdepicigaaDoorRangeA
import Derived.Test.YtbaljgdepicigaaDoorFillD
import Derived.Test.YtbaljgdepicigaaDoorFillE
import Derived.Test.YtbaljgdepicigaaDoorFillF
import Derived.Test.YtbaljgdepicigaaDoorFillG
import Derived.Test.YtbaljgdepicigaaDoorRangeB
import Derived.Test.YtbaljgdepicigaaDoorExtA
import Derived.Test.YtbaljgdepicigaaDoorExtB
import Derived.Test.YtbaljgdepicigaaDoorExtC
import Derived.Test.YtbaljgdepicigaaDoorExtF
import Derived.Test.YtbaljgdepicigaaDoorLstA
namespace Go.Proofs.YtbaljgdepicigaaDoor
open Go.RowKit
set_option linter.unusedVariables false
set_option maxRecDepth 100000

-- words
theorem brkO_yes {s : Int} {xs : List Int} {a : Int} (h : canWin s xs a) : brkO s xs a = some (least xs (lg s) a (fullS s)) := by
  unfold brkO
  rw [if_pos ⟨h.1, h.2.1⟩, first_least h.1 h.2.1, if_pos h.2.2]
theorem brkO_no {s : Int} {xs : List Int} {a : Int} (h : ¬ canWin s xs a) : brkO s xs a = none := by
  unfold brkO
  by_cases hb : brkCan s xs a
  · rw [if_pos hb, first_least hb.1 hb.2, if_neg (fun hi => h ⟨hb.1, hb.2, hi⟩)]
  · rw [if_neg hb]

end Go.Proofs.YtbaljgdepicigaaDoor
