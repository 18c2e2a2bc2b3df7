/-
  Contracts of Go's library functions and of the smallest functions of the program.
-/
import Derived.Test.YtbaljgdepicigaaDoorBase
import Derived.Test.YtbaljgdepicigaaDoorMgA
namespace Go.Proofs.YtbaljgdepicigaaDoor
open Go.RowKit
set_option linter.unusedVariables false
-- slices.Index
theorem Index_any (A : Option Addr) (n c : Nat) (xs : List Int) (v : Int) (w : World) (h : Ints w A n c xs) :
    Calls Tryd.prog 67 #[.slice A n c, .int .i64 v] w fun e w' => e = .returned (.int .i64 (idx xs v)) ∧ w = w' := by
  have hn := h.max
  have hl := h.le
  have HL := hide h.len
  go_enter Tryd.func67, Tryd.ntmps67
  go_wp2
  go_loop [8] (fun i => ∃ k : Nat, k ≤ n ∧ i = .int .i64 k ∧ ¬ v ∈ xs.take k) (fun i => n - (intOf i).toNat)
  case atStart => exact ⟨0, Nat.zero_le _, rfl, by simp⟩
  case round =>
    obtain ⟨k, hk, rfl, hv⟩ := hrel
    have HV := hide hv; clear hv
    by_cases hlt : k < n
    · obtain ⟨b, off, x, rfl, hb, hx, wx, hc⟩ := h.get hlt
      have HX := hide hx; clear hx
      go_wp2
      · have e : v = x := by simpa using ‹(v == x) = true›
        subst e
        go_ret
        exact ⟨ret_int (idx_hit HV.out HX.out).symm, rfl⟩
      · have e : v ≠ x := by simpa using ‹(v == x) = false›
        go_round
        case rel => exact ⟨k + 1, by omega, by go_num, mem_take_succ HX.out HV.out e⟩
        case measure => (simp [intOf] <;> omega)
    · have : k = n := by omega
      subst this
      go_wp2
      go_ret
      exact ⟨ret_int (idx_miss (by have := HV.out; rwa [take_len HL.out] at this)).symm, rfl⟩
-- slices.Contains
theorem Contains_any (A : Option Addr) (n c : Nat) (xs : List Int) (v : Int) (w : World) (h : Ints w A n c xs) :
    Calls Tryd.prog 54 #[.slice A n c, .int .i64 v] w fun e w' => e = .returned (.bool (decide (v ∈ xs))) ∧ w = w' := by
  have HI := hide h
  clear h
  go_enter Tryd.func54, Tryd.ntmps54
  go_wp2_with (go_at_call 67; refine (Index_any _ _ _ xs _ _ HI.out).mono ?_; rintro e w' ⟨rfl, rfl⟩)
  go_ret
  exact ⟨ret_bool (by simp [idx_ge]), rfl⟩
-- within
theorem within_any (n lo hi : Int) (w : World) :
    Calls Tryd.prog 44 #[.int .i64 n, .int .i64 lo, .int .i64 hi] w fun e w' => e = .returned (.bool (decide (lo ≤ n ∧ n ≤ hi))) ∧ w = w' := by
  by_cases h1 : lo ≤ n <;> by_cases h2 : n ≤ hi
  all_goals
    go_enter Tryd.func44, Tryd.ntmps44
    go_wp2
    go_ret
    exact ⟨by simp [h1, h2], rfl⟩
-- l01In
theorem l01In_any (n lo hi : Int) (w : World) :
    Calls Tryd.prog 96 #[.int .i64 n, .int .i64 lo, .int .i64 hi] w fun e w' => e = .returned (.bool (decide (lo ≤ n ∧ n ≤ hi))) ∧ w = w' := by
  by_cases h1 : lo ≤ n <;> by_cases h2 : n ≤ hi
  all_goals
    go_enter Tryd.func96, Tryd.ntmps96
    go_wp2
    go_ret
    exact ⟨by simp [h1, h2], rfl⟩

end Go.Proofs.YtbaljgdepicigaaDoor
