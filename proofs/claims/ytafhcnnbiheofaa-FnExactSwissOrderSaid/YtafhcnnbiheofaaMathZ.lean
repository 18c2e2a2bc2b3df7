/-
  Plain facts on small sets, case by case: no program.
-/
import Derived.Test.YtafhcnnbiheofaaBase
import Derived.Test.YtafhcnnbiheofaaMathA
import Derived.Test.YtafhcnnbiheofaaMathD
import Derived.Test.YtafhcnnbiheofaaMathB
import Derived.Test.YtafhcnnbiheofaaMathU
import Derived.Test.YtafhcnnbiheofaaMathW
namespace Go.Proofs.Ytafhcnnbiheofaa
set_option linter.unusedVariables false

theorem pc_sub : ∀ m : Nat, m < 256 → ∀ h : Nat, h < 256 → h &&& m = h → pc (m - h) + pc h = pc m ∧ h ≤ m := by decide +kernel
theorem pc_le : ∀ m : Nat, m < 256 → pc m ≤ 8 := by decide +kernel
theorem sub_bits : ∀ m : Nat, m < 256 → ∀ h : Nat, h < 256 → h &&& m = h → m - h = m &&& (255 - h) := by decide +kernel

end Go.Proofs.Ytafhcnnbiheofaa
