/-
  Contracts of the small functions of the law on Swiss rounds.
-/
import Derived.Laws.ShiftsVar
import Derived.Test.YtbaljgdepicigaaDoorBase
import Derived.Test.YtbaljgdepicigaaDoorMgA
import Derived.Test.YtbaljgdepicigaaDoorLib
import Derived.Test.YtbaljgdepicigaaDoorAid
import Derived.Test.YtbaljgdepicigaaDoorStep
import Derived.Test.YtbaljgdepicigaaDoorGrid
import Derived.Test.YtbaljgdepicigaaDoorLibF
import Derived.Test.YtbaljgdepicigaaDoorSeed
import Derived.Test.YtbaljgdepicigaaDoorTour
import Derived.Test.YtbaljgdepicigaaDoorTourB
import Derived.Test.YtbaljgdepicigaaDoorCurA
import Derived.Test.YtbaljgdepicigaaDoorDrwA
import Derived.Test.YtbaljgdepicigaaDoorDrwB
namespace Go.Proofs.YtbaljgdepicigaaDoor
open Go.RowKit
set_option linter.unusedVariables false

-- spec.l01Pick
theorem l01Pick_any (w0 w : World) (p : Nat) (A : Option Addr) (n c : Nat) (xs : List Int) (h : Cur w0 w p) (hx : Ints w A n c xs) (hp : ∀ k, A.map (·.block) = some k → k ≠ p) (h1 : 1 ≤ n) (h2 : n ≤ 256) :
    Calls Tryd.prog 93 #[.pointer (some ⟨p, 0, none⟩), .slice A n c] w fun e w' => ∃ x ∈ xs, e = .returned (.int .i64 x) ∧ Cur w0 w' p ∧ w.grownBy w' (some p) := by
  have C := hide (l01Below_any w0 w p n h h1 h2)
  have HX := hide hx
  have HP := hide hp
  clear h hx hp
  go_enter Tryd.func93, Tryd.ntmps93
  go_wp2_with fail
  refine C.out.mono ?_
  rintro e w1 ⟨k, rfl, hk, hC, hg⟩
  obtain ⟨b, o, x, rfl, hbl, hxk, wx, hc⟩ := HX.out.get hk
  have hc1 := (World.cell?_of_block (w := w) (a := ⟨b, o + k, none⟩) (hg.block b hbl (fun e => HP.out b rfl (Option.some.inj e)))).trans hc
  have hki : (k : Int) < (n : Int) := by omega
  have HM := hide (List.mem_of_getElem? hxk)
  have HC := hide hC
  have HG := hide hg
  clear hxk hC hg hc
  go_wp2
  go_ret
  exact ⟨x, HM.out, rfl, HC.out, HG.out⟩

end Go.Proofs.YtbaljgdepicigaaDoor
