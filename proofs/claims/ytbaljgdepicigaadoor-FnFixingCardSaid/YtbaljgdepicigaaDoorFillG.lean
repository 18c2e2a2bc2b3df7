/-
  The least sum of differences of a pairing: the program's and the reference's.
-/
import Derived.Deep.RegionLaw
import Derived.Laws.ShiftsVar
import Derived.Test.YtbaljgdepicigaaDoorBase
import Derived.Test.YtbaljgdepicigaaDoorMgA
import Derived.Test.YtbaljgdepicigaaDoorLib
import Derived.Test.YtbaljgdepicigaaDoorAid
import Derived.Test.YtbaljgdepicigaaDoorStep
import Derived.Test.YtbaljgdepicigaaDoorGrid
import Derived.Test.YtbaljgdepicigaaDoorLibF
import Derived.Test.YtbaljgdepicigaaDoorMgB
import Derived.Test.YtbaljgdepicigaaDoorDblB
import Derived.Test.YtbaljgdepicigaaDoorSortA
import Derived.Test.YtbaljgdepicigaaDoorRangeA
import Derived.Test.YtbaljgdepicigaaDoorFillD
import Derived.Test.YtbaljgdepicigaaDoorFillE
import Derived.Test.YtbaljgdepicigaaDoorFillF
namespace Go.Proofs.YtbaljgdepicigaaDoor
open Go.RowKit
set_option linter.unusedVariables false
set_option maxRecDepth 100000
attribute [local go_sem] Oper.semAt_some

-- words
theorem calls_round {P : Program} {f : FuncId} {args : Array Value} {w : World} {R : Ending → World → Prop} (l m : Nat) (h : Calls P f args w R) : CallsIn (Fence.wide.inRound l) m P f args w R := callsIn_wide.2 h
def floatV (xs p : List Int) : Int := sumTo (drop1 xs p) xs.length
def gapV (xs p : List Int) : Int := sumTo (gap1 xs p) xs.length
def leastP (xs ms : List Int) : Int := if swissOk xs ms then leastF (floatV xs) (pairingsO (upto ms.length) ms) else -1
theorem pairings_ok {xs ms o : List Int} (h : swissOk xs ms) (ho : ordOf ms.length o) : ∀ p ∈ pairingsO o ms, pairsOk ms.length p := fun p hp =>
  ((mem_fillL ho (swissOk_sym h) _ _ (partP_start _) (nfree_start _) p).1 hp).ok
theorem floatV_nonneg {xs p : List Int} (h : isSwiss xs) : 0 ≤ floatV xs p := (drop1_bound (n := 0) (k := xs.length) h.2.2).1
theorem leastP_all {xs ms : List Int} (h : swissOk xs ms) : leastP xs ms = leastF (gapV xs) (allL ms (ms.length + 1) (orderO xs ms.length) (List.replicate ms.length 0)) := by
  unfold leastP
  rw [if_pos h, allL_pairings h]
  refine leastF_perm (pairings_perm h) (fun p _ => floatV_nonneg h.1) fun p hp => ?_
  have := pairings_ok h (ordOf_upto ms.length) p hp
  rw [h.2.1] at this
  exact float_same this

end Go.Proofs.YtbaljgdepicigaaDoor
