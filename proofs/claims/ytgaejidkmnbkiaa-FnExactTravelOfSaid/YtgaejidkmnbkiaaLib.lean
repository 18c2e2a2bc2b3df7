/-
  Contracts of Go's library functions and of the smallest functions of the program.
-/
import Derived.Test.YtgaejidkmnbkiaaBase
import Derived.Test.YtgaejidkmnbkiaaMathA
namespace Go.Proofs.Ytgaejidkmnbkiaa
open Go.RowKit
set_option linter.unusedVariables false
-- within
theorem within_any (n lo hi : Int) (w : World) :
    Calls Try.prog 49 #[.int .i64 n, .int .i64 lo, .int .i64 hi] w fun e w' => e = .returned (.bool (decide (lo ≤ n ∧ n ≤ hi))) ∧ w = w' := by
  by_cases h1 : lo ≤ n <;> by_cases h2 : n ≤ hi
  all_goals
    go_enter Try.func49, Try.ntmps49
    go_wp2
    go_ret
    exact ⟨by simp [h1, h2], rfl⟩
-- l01In
theorem l01In_any (n lo hi : Int) (w : World) :
    Calls Try.prog 40 #[.int .i64 n, .int .i64 lo, .int .i64 hi] w fun e w' => e = .returned (.bool (decide (lo ≤ n ∧ n ≤ hi))) ∧ w = w' := by
  by_cases h1 : lo ≤ n <;> by_cases h2 : n ≤ hi
  all_goals
    go_enter Try.func40, Try.ntmps40
    go_wp2
    go_ret
    exact ⟨by simp [h1, h2], rfl⟩

end Go.Proofs.Ytgaejidkmnbkiaa
