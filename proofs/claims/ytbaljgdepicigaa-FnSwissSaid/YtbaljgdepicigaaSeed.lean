/-
  Contracts of the functions on seeds.
-/
import Derived.Test.YtbaljgdepicigaaBase
import Derived.Test.YtbaljgdepicigaaMathA
import Derived.Test.YtbaljgdepicigaaLib
import Derived.Test.YtbaljgdepicigaaAid
import Derived.Test.YtbaljgdepicigaaMathB
namespace Go.Proofs.Ytbaljgdepicigaa
open Go.RowKit
set_option linter.unusedVariables false

-- impl.isBracketSize
theorem isBracketSize_any (n : Int) (w : World) :
    Calls Try.prog 163 #[.int .i64 n] w fun e w' => e = .returned (.bool (decide (brkSize n))) ∧ w = w' := by
  by_cases h1 : n = 1
  · subst h1; go_enter Try.func163, Try.ntmps163; go_wp2; go_ret; exact ⟨rfl, rfl⟩
  by_cases h2 : n = 2
  · subst h2; go_enter Try.func163, Try.ntmps163; go_wp2; go_ret; exact ⟨rfl, rfl⟩
  by_cases h4 : n = 4
  · subst h4; go_enter Try.func163, Try.ntmps163; go_wp2; go_ret; exact ⟨rfl, rfl⟩
  by_cases h8 : n = 8
  · subst h8; go_enter Try.func163, Try.ntmps163; go_wp2; go_ret; exact ⟨rfl, rfl⟩
  have hf : decide (brkSize n) = false := by simp [brkSize, h1, h2, h4, h8]
  have e1 : (n == 1) = false := by simpa using h1
  have e2 : (n == 2) = false := by simpa using h2
  have e4 : (n == 4) = false := by simpa using h4
  have e8 : (n == 8) = false := by simpa using h8
  have HF := hide hf; clear hf h1 h2 h4 h8
  go_enter Try.func163, Try.ntmps163; go_wp2; go_ret; exact ⟨ret_bool HF.out.symm, rfl⟩
-- spec.l21Size
theorem l21Size_any (n : Int) (w : World) :
    Calls Try.prog 110 #[.int .i64 n] w fun e w' => e = .returned (.bool (decide (brkSize n))) ∧ w = w' := by
  by_cases h1 : n = 1
  · subst h1; go_enter Try.func110, Try.ntmps110; go_wp2; go_ret; exact ⟨rfl, rfl⟩
  by_cases h2 : n = 2
  · subst h2; go_enter Try.func110, Try.ntmps110; go_wp2; go_ret; exact ⟨rfl, rfl⟩
  by_cases h4 : n = 4
  · subst h4; go_enter Try.func110, Try.ntmps110; go_wp2; go_ret; exact ⟨rfl, rfl⟩
  by_cases h8 : n = 8
  · subst h8; go_enter Try.func110, Try.ntmps110; go_wp2; go_ret; exact ⟨rfl, rfl⟩
  have hf : decide (brkSize n) = false := by simp [brkSize, h1, h2, h4, h8]
  have e1 : (n == 1) = false := by simpa using h1
  have e2 : (n == 2) = false := by simpa using h2
  have e4 : (n == 4) = false := by simpa using h4
  have e8 : (n == 8) = false := by simpa using h8
  have HF := hide hf; clear hf h1 h2 h4 h8
  go_enter Try.func110, Try.ntmps110; go_wp2; go_ret; exact ⟨ret_bool HF.out.symm, rfl⟩

end Go.Proofs.Ytbaljgdepicigaa
