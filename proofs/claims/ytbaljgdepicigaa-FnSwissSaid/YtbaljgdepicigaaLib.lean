/-
  Contracts of Go's library functions and of the smallest functions of the program.
-/
import Derived.Test.YtbaljgdepicigaaBase
import Derived.Test.YtbaljgdepicigaaMathA
namespace Go.Proofs.Ytbaljgdepicigaa
open Go.RowKit
set_option linter.unusedVariables false
-- slices.Index
theorem Index_any (A : Option Addr) (n c : Nat) (xs : List Int) (v : Int) (w : World) (h : Ints w A n c xs) :
    Calls Try.prog 185 #[.slice A n c, .int .i64 v] w fun e w' => e = .returned (.int .i64 (idx xs v)) ∧ w = w' := by
  have hn := h.max
  have hl := h.le
  have HL := hide h.len
  go_enter Try.func185, Try.ntmps185
  go_wp2
  go_loop [8] (fun i => ∃ k : Nat, k ≤ n ∧ i = .int .i64 k ∧ ¬ v ∈ xs.take k) (fun i => n - (intOf i).toNat)
  case atStart => exact ⟨0, Nat.zero_le _, rfl, by simp⟩
  case round =>
    obtain ⟨k, hk, rfl, hv⟩ := hrel
    have HV := hide hv; clear hv
    by_cases hlt : k < n
    · obtain ⟨b, off, x, rfl, hb, hx, wx, hc⟩ := h.get hlt
      have HX := hide hx; clear hx
      go_wp2
      · have e : v = x := by simpa using ‹(v == x) = true›
        subst e
        go_ret
        exact ⟨ret_int (idx_hit HV.out HX.out).symm, rfl⟩
      · have e : v ≠ x := by simpa using ‹(v == x) = false›
        go_round
        case rel => exact ⟨k + 1, by omega, by go_num, mem_take_succ HX.out HV.out e⟩
        case measure => (simp [intOf] <;> omega)
    · have : k = n := by omega
      subst this
      go_wp2
      go_ret
      exact ⟨ret_int (idx_miss (by have := HV.out; rwa [take_len HL.out] at this)).symm, rfl⟩
-- slices.Contains
theorem Contains_any (A : Option Addr) (n c : Nat) (xs : List Int) (v : Int) (w : World) (h : Ints w A n c xs) :
    Calls Try.prog 136 #[.slice A n c, .int .i64 v] w fun e w' => e = .returned (.bool (decide (v ∈ xs))) ∧ w = w' := by
  have HI := hide h
  clear h
  go_enter Try.func136, Try.ntmps136
  go_wp2_with (go_at_call 185; refine (Index_any _ _ _ xs _ _ HI.out).mono ?_; rintro e w' ⟨rfl, rfl⟩)
  go_ret
  exact ⟨ret_bool (by simp [idx_ge]), rfl⟩
-- within
theorem within_any (n lo hi : Int) (w : World) :
    Calls Try.prog 94 #[.int .i64 n, .int .i64 lo, .int .i64 hi] w fun e w' => e = .returned (.bool (decide (lo ≤ n ∧ n ≤ hi))) ∧ w = w' := by
  by_cases h1 : lo ≤ n <;> by_cases h2 : n ≤ hi
  all_goals
    go_enter Try.func94, Try.ntmps94
    go_wp2
    go_ret
    exact ⟨by simp [h1, h2], rfl⟩
-- l01In
theorem l01In_any (n lo hi : Int) (w : World) :
    Calls Try.prog 146 #[.int .i64 n, .int .i64 lo, .int .i64 hi] w fun e w' => e = .returned (.bool (decide (lo ≤ n ∧ n ≤ hi))) ∧ w = w' := by
  by_cases h1 : lo ≤ n <;> by_cases h2 : n ≤ hi
  all_goals
    go_enter Try.func146, Try.ntmps146
    go_wp2
    go_ret
    exact ⟨by simp [h1, h2], rfl⟩
-- isOrder
theorem isOrder_any (A : Option Addr) (n c : Nat) (xs : List Int) (w : World) (h : Ints w A n c xs) :
    Calls Try.prog 186 #[.slice A n c] w fun e w' => e = .returned (.bool (decide (isOrder xs))) ∧ w = w' := by
  have hn := h.max
  have hl := h.le
  have HL := hide h.len
  have HI := hide h
  go_enter Try.func186, Try.ntmps186
  go_wp2
  go_loop [7] (fun i => ∃ k : Nat, k ≤ n ∧ i = .int .i64 k ∧ Hid ((∀ x ∈ xs.take k, 0 ≤ x ∧ x < n) ∧ (xs.take k).Nodup)) (fun i => n - (intOf i).toNat)
  case atStart => exact ⟨0, Nat.zero_le _, rfl, hide (by simp)⟩
  case round =>
    obtain ⟨k, hk, rfl, HR⟩ := hrel
    by_cases hlt : k < n
    · obtain ⟨b, off, x, rfl, hb, hx, wx, hc⟩ := h.get hlt
      have HX := hide hx; clear hx h
      by_cases hin : 0 ≤ x ∧ x ≤ (n : Int) - 1
      · go_wp2_with (first | (go_at_call 94; refine (within_any _ _ _ _).mono ?_; rintro e w' ⟨rfl, rfl⟩) | (go_at_call 136; refine (Contains_any _ _ _ (xs.take k) _ _ (HI.out.take (by omega))).mono ?_; rintro e w' ⟨rfl, rfl⟩))
        · have hm : x ∈ List.take k xs := by assumption
          go_ret
          refine ⟨ret_bool (by symm; rw [decide_eq_false_iff_not]; rintro ⟨_, hnd⟩; exact ((nodup_snoc HX.out).1 (nodup_take hnd)).2 hm), rfl⟩
        · have hm : ¬ x ∈ List.take k xs := by assumption
          go_round
          case rel =>
            refine ⟨k + 1, by omega, by go_num, hide ⟨?_, (nodup_snoc HX.out).2 ⟨HR.out.2, hm⟩⟩⟩
            rw [take_snoc_of HX.out]
            intro y hy
            rcases List.mem_append.1 hy with hy | hy
            · exact HR.out.1 y hy
            · obtain rfl : y = x := by simpa using hy
              omega
          case measure => (simp [intOf] <;> omega)
      · go_wp2_with (first | (go_at_call 94; refine (within_any _ _ _ _).mono ?_; rintro e w' ⟨rfl, rfl⟩))
        go_ret
        refine ⟨ret_bool (by symm; rw [decide_eq_false_iff_not]; rintro ⟨hb', _⟩; have := hb' x (List.mem_of_getElem? HX.out); rw [HL.out] at this; omega), rfl⟩
    · have : k = n := by omega
      subst this
      go_wp2
      go_ret
      refine ⟨ret_bool (by symm; rw [decide_eq_true_eq]; have := HR.out; rw [take_len HL.out] at this; exact ⟨by rw [HL.out]; exact this.1, this.2⟩), rfl⟩

end Go.Proofs.Ytbaljgdepicigaa
