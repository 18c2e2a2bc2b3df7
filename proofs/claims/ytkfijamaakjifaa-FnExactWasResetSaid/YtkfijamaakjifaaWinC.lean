/-
  Contracts of the functions that ask who can win a bracket.
-/
import Derived.Laws.ShiftsVar
import Derived.Test.YtkfijamaakjifaaBase
import Derived.Test.YtkfijamaakjifaaMathA
import Derived.Test.YtkfijamaakjifaaMathD
import Derived.Test.YtkfijamaakjifaaLib
import Derived.Test.YtkfijamaakjifaaAid
import Derived.Test.YtkfijamaakjifaaGrid
import Derived.Test.YtkfijamaakjifaaLibF
import Derived.Test.YtkfijamaakjifaaMathB
import Derived.Test.YtkfijamaakjifaaMathU
import Derived.Test.YtkfijamaakjifaaMathW
import Derived.Test.YtkfijamaakjifaaMathZ
import Derived.Test.YtkfijamaakjifaaMathY
import Derived.Test.YtkfijamaakjifaaStep
import Derived.Test.YtkfijamaakjifaaPop
import Derived.Test.YtkfijamaakjifaaTour
import Derived.Test.YtkfijamaakjifaaTourB
import Derived.Test.YtkfijamaakjifaaWin
namespace Go.Proofs.Ytkfijamaakjifaa
open Go.RowKit
set_option linter.unusedVariables false

-- words
theorem full_wrap {s : Int} (h0 : 0 ≤ s) (h8 : s ≤ 8) : wrap64 (wrap64 (2 ^ s.toNat) - 1) = (fullS s : Int) := by
  have h2 : (2 : Nat) ^ s.toNat ≤ 2 ^ 8 := Nat.pow_le_pow_right (by omega) (by omega)
  have h3 : ((2 ^ s.toNat : Nat) : Int) = (2 : Int) ^ s.toNat := by simp
  have h4 := Nat.two_pow_pos s.toNat
  rw [← h3]
  unfold fullS
  generalize (2 : Nat) ^ s.toNat = p at *
  unfold wrap64
  omega
theorem full_wrapI {s : Int} (h0 : 0 ≤ s) (h8 : s ≤ 8) : IntKind.i64.wrap (IntKind.i64.wrap (2 ^ s.toNat) - 1) = (fullS s : Int) := by
  have h2 : (2 : Nat) ^ s.toNat ≤ 2 ^ 8 := Nat.pow_le_pow_right (by omega) (by omega)
  have h3 : ((2 ^ s.toNat : Nat) : Int) = (2 : Int) ^ s.toNat := by simp
  have h4 := Nat.two_pow_pos s.toNat
  rw [← h3]
  unfold fullS
  generalize (2 : Nat) ^ s.toNat = p at *
  rw [IntKind.wrap_i64, IntKind.wrap_i64]
  omega
theorem winnersOf_no {s : Int} {xs : List Int} {set : Int} (h : ¬ winOk s xs set) : winnersOf s xs set = 0 := if_neg h
theorem tour_s8 {s : Int} {xs : List Int} (h : tourOk s xs) : 0 ≤ s ∧ s ≤ 8 := by have := h.1; omega
-- OnesCount of a number
theorem OnesCountI_any (x : Int) (w : World) (h : 0 ≤ x ∧ x < 256) :
    Calls Try.prog 91 #[.int .u64 x] w fun e w' => e = .returned (.int .i64 (pc x.toNat : Int)) ∧ w = w' := by
  obtain ⟨m, rfl⟩ : ∃ m : Nat, x = (m : Int) := ⟨x.toNat, by omega⟩
  rw [Int.toNat_natCast]
  exact OnesCount_small m (by omega) w
-- spec.l02All
theorem l02All_any (s : Int) (A : Option Addr) (n c : Nat) (w : World) (hs : 0 ≤ s ∧ s ≤ 8) :
    Calls Try.prog 73 #[.agg #[.int .i64 s, .slice A n c]] w fun e w' => e = .returned (.int .i64 (fullS s : Int)) ∧ Ext w w' := by
  have HF := hide (full_wrap hs.1 hs.2)
  go_enter Try.func73, Try.ntmps73
  go_wp2
  go_ret
  exact ⟨ret_int HF.out, Ext.one _ _⟩
-- spec.l02Player
theorem l02Player_any (s : Int) (A : Option Addr) (n c : Nat) (xs : List Int) (a : Int) (w : World) (h : Ints w A n c xs) :
    Calls Try.prog 53 #[.agg #[.int .i64 s, .slice A n c], .int .i64 a] w fun e w' => e = .returned (.bool (decide (tourOk s xs ∧ 0 ≤ a ∧ a ≤ s - 1))) ∧ Ext w w' := by
  have H_h := hide h
  have HE0 := hide (Ext.one w (.cells #[.int .i64 s, .slice A n c] 28))
  have b0_0 : (w.alloc (.cells #[.int .i64 s, .slice A n c] 28)).cell? ⟨w.heap.size, 0, none⟩ = some (.int .i64 s) := by simp
  have b1_0 : (w.alloc (.cells #[.int .i64 s, .slice A n c] 28)).cell? ⟨w.heap.size, 1, none⟩ = some (.slice A n c) := by simp
  clear h
  by_cases hp1 : tourOk s xs
  · skip
    have HP1 := hide hp1
    have hs8 := tour_s8 hp1
    by_cases hp2 : 0 ≤ a ∧ a ≤ s - 1
    · skip
      have HP2 := hide hp2
      have HF := hide (show decide (tourOk s xs ∧ 0 ≤ a ∧ a ≤ s - 1) = true from (decide_eq_true ⟨hp1, hp2⟩))
      clear hp1 hp2
      go_enter Try.func53, Try.ntmps53
      go_wp2_with (first | (go_at_call 47; refine (sTourOk_any _ _ _ _ xs _ (H_h.out.ext HE0.out)).mono ?_; rw [decide_eq_true HP1.out]; rintro e w1 ⟨rfl, hE1⟩; have b0_1 := hE1.get b0_0; have b1_1 := hE1.get b1_0) | (go_at_call 71; refine (l01In_any _ _ _ _).mono ?_; rw [decide_eq_true HP2.out]; rintro e w' ⟨rfl, rfl⟩))
      go_ret
      exact ⟨ret_bool HF.out.symm, (HE0.out.trans hE1)⟩
    · have HP2 := hide hp2
      have HF := hide (show (decide (tourOk s xs ∧ 0 ≤ a ∧ a ≤ s - 1)) = false from by
        rw [decide_eq_false_iff_not]
        intro hh; exact HP2.out (by first | exact hh.1 | exact hh.2.1 | exact hh.2.2.1 | exact hh.2.2 | exact hh.2.2.2 | exact hh.2.2.2.1 | exact hh | (have := hh; omega) | simp_all))
      clear hp1 hp2
      go_enter Try.func53, Try.ntmps53
      go_wp2_with (first | (go_at_call 47; refine (sTourOk_any _ _ _ _ xs _ (H_h.out.ext HE0.out)).mono ?_; rw [decide_eq_true HP1.out]; rintro e w1 ⟨rfl, hE1⟩; have b0_1 := hE1.get b0_0; have b1_1 := hE1.get b1_0) | (go_at_call 71; refine (l01In_any _ _ _ _).mono ?_; rw [decide_eq_false HP2.out]; rintro e w' ⟨rfl, rfl⟩))
      go_ret
      exact ⟨ret_bool HF.out.symm, (HE0.out.trans hE1)⟩
  · have HP1 := hide hp1
    have HF := hide (show (decide (tourOk s xs ∧ 0 ≤ a ∧ a ≤ s - 1)) = false from by
      rw [decide_eq_false_iff_not]
      intro hh; exact HP1.out (by first | exact hh.1 | exact hh.2.1 | exact hh.2.2.1 | exact hh.2.2 | exact hh.2.2.2 | exact hh.2.2.2.1 | exact hh | (have := hh; omega) | simp_all))
    clear hp1
    go_enter Try.func53, Try.ntmps53
    go_wp2_with (first | (go_at_call 47; refine (sTourOk_any _ _ _ _ xs _ (H_h.out.ext HE0.out)).mono ?_; rw [decide_eq_false HP1.out]; rintro e w1 ⟨rfl, hE1⟩; have b0_1 := hE1.get b0_0; have b1_1 := hE1.get b1_0))
    go_ret
    exact ⟨ret_bool HF.out.symm, (HE0.out.trans hE1)⟩

end Go.Proofs.Ytkfijamaakjifaa
