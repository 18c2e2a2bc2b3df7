/-
  Plain facts on small sets, case by case: no program.
-/
import Derived.Test.YtbaljgdepicigaaBase
import Derived.Test.YtbaljgdepicigaaMathA
import Derived.Test.YtbaljgdepicigaaMathD
import Derived.Test.YtbaljgdepicigaaMathB
import Derived.Test.YtbaljgdepicigaaMathU
import Derived.Test.YtbaljgdepicigaaMathW
namespace Go.Proofs.Ytbaljgdepicigaa
set_option linter.unusedVariables false

theorem pc_sub : ∀ m : Nat, m < 256 → ∀ h : Nat, h < 256 → h &&& m = h → pc (m - h) + pc h = pc m ∧ h ≤ m := by decide +kernel
theorem pc_le : ∀ m : Nat, m < 256 → pc m ≤ 8 := by decide +kernel
theorem sub_bits : ∀ m : Nat, m < 256 → ∀ h : Nat, h < 256 → h &&& m = h → m - h = m &&& (255 - h) := by decide +kernel

end Go.Proofs.Ytbaljgdepicigaa
