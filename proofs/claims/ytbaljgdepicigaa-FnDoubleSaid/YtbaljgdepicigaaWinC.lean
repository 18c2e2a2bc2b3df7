/-
  Contracts of the functions that ask who can win a bracket.
-/
import Derived.Laws.ShiftsVar
import Derived.Test.YtbaljgdepicigaaBase
import Derived.Test.YtbaljgdepicigaaMathA
import Derived.Test.YtbaljgdepicigaaMathD
import Derived.Test.YtbaljgdepicigaaLib
import Derived.Test.YtbaljgdepicigaaAid
import Derived.Test.YtbaljgdepicigaaGrid
import Derived.Test.YtbaljgdepicigaaLibF
import Derived.Test.YtbaljgdepicigaaMathB
import Derived.Test.YtbaljgdepicigaaMathU
import Derived.Test.YtbaljgdepicigaaMathW
import Derived.Test.YtbaljgdepicigaaMathZ
import Derived.Test.YtbaljgdepicigaaMathY
import Derived.Test.YtbaljgdepicigaaStep
import Derived.Test.YtbaljgdepicigaaPop
import Derived.Test.YtbaljgdepicigaaSeed
import Derived.Test.YtbaljgdepicigaaTour
import Derived.Test.YtbaljgdepicigaaTourB
import Derived.Test.YtbaljgdepicigaaWin
import Derived.Test.YtbaljgdepicigaaWinB
namespace Go.Proofs.Ytbaljgdepicigaa
open Go.RowKit
set_option linter.unusedVariables false

-- words
theorem full_wrap {s : Int} (h0 : 0 ≤ s) (h8 : s ≤ 8) : wrap64 (wrap64 (2 ^ s.toNat) - 1) = (fullS s : Int) := by
  have h2 : (2 : Nat) ^ s.toNat ≤ 2 ^ 8 := Nat.pow_le_pow_right (by omega) (by omega)
  have h3 : ((2 ^ s.toNat : Nat) : Int) = (2 : Int) ^ s.toNat := by simp
  have h4 := Nat.two_pow_pos s.toNat
  rw [← h3]
  unfold fullS
  generalize (2 : Nat) ^ s.toNat = p at *
  unfold wrap64
  omega
theorem full_wrapI {s : Int} (h0 : 0 ≤ s) (h8 : s ≤ 8) : IntKind.i64.wrap (IntKind.i64.wrap (2 ^ s.toNat) - 1) = (fullS s : Int) := by
  have h2 : (2 : Nat) ^ s.toNat ≤ 2 ^ 8 := Nat.pow_le_pow_right (by omega) (by omega)
  have h3 : ((2 ^ s.toNat : Nat) : Int) = (2 : Int) ^ s.toNat := by simp
  have h4 := Nat.two_pow_pos s.toNat
  rw [← h3]
  unfold fullS
  generalize (2 : Nat) ^ s.toNat = p at *
  rw [IntKind.wrap_i64, IntKind.wrap_i64]
  omega
theorem winnersOf_no {s : Int} {xs : List Int} {set : Int} (h : ¬ winOk s xs set) : winnersOf s xs set = 0 := if_neg h
theorem tour_s8 {s : Int} {xs : List Int} (h : tourOk s xs) : 0 ≤ s ∧ s ≤ 8 := by have := h.1; omega
-- OnesCount of a number
theorem OnesCountI_any (x : Int) (w : World) (h : 0 ≤ x ∧ x < 256) :
    Calls Try.prog 187 #[.int .u64 x] w fun e w' => e = .returned (.int .i64 (pc x.toNat : Int)) ∧ w = w' := by
  obtain ⟨m, rfl⟩ : ∃ m : Nat, x = (m : Int) := ⟨x.toNat, by omega⟩
  rw [Int.toNat_natCast]
  exact OnesCount_small m (by omega) w
-- l02Bits of a number
theorem l02BitsI_any (x : Int) (w : World) (h : 0 ≤ x ∧ x < 256) :
    Calls Try.prog 168 #[.int .i64 x] w fun e w' => e = .returned (.int .i64 (pc x.toNat : Int)) ∧ w = w' := by
  obtain ⟨m, rfl⟩ : ∃ m : Nat, x = (m : Int) := ⟨x.toNat, by omega⟩
  rw [Int.toNat_natCast]
  exact l02Bits_small m (by omega) w
-- winners of a number sWin
theorem sWin_any (s : Int) (A : Option Addr) (n c : Nat) (xs : List Int) (set : Int) (w : World) (h : Ints w A n c xs) (hw : winOk s xs set) :
    Calls Try.prog 169 #[.agg #[.int .i64 s, .slice A n c], .int .i64 set] w fun e w' => e = .returned (.int .i64 (winnersOf s xs set)) ∧ Ext w w' := by
  have h1 := winOk_set hw
  have h2 := hw.2.1
  rw [h.len] at h1
  obtain ⟨m, rfl⟩ : ∃ m : Nat, set = (m : Int) := ⟨set.toNat, by omega⟩
  rw [Int.toNat_natCast] at h1
  rw [winnersOf, if_pos hw, Int.toNat_natCast]
  exact sWinners_any s A n c xs hw.1 h.len _ m h1.1 h1.2.1 h1.2.2 w h
-- spec.l02All
theorem l02All_any (s : Int) (A : Option Addr) (n c : Nat) (w : World) (hs : 0 ≤ s ∧ s ≤ 8) :
    Calls Try.prog 119 #[.agg #[.int .i64 s, .slice A n c]] w fun e w' => e = .returned (.int .i64 (fullS s : Int)) ∧ Ext w w' := by
  have HF := hide (full_wrap hs.1 hs.2)
  go_enter Try.func119, Try.ntmps119
  go_wp2
  go_ret
  exact ⟨ret_int HF.out, Ext.one _ _⟩
-- impl.isFixed
theorem isFixed_any (s : Int) (A : Option Addr) (n c : Nat) (xs : List Int) (w : World) (h : Ints w A n c xs) :
    Calls Try.prog 114 #[.agg #[.int .i64 s, .slice A n c]] w fun e w' => e = .returned (.bool (decide (fixedOk s xs))) ∧ Ext w w' := by
  have H_h := hide h
  have HE0 := hide (Ext.one w (.cells #[.int .i64 s, .slice A n c] 33))
  have b0_0 : (w.alloc (.cells #[.int .i64 s, .slice A n c] 33)).cell? ⟨w.heap.size, 0, none⟩ = some (.int .i64 s) := by simp
  have b1_0 : (w.alloc (.cells #[.int .i64 s, .slice A n c] 33)).cell? ⟨w.heap.size, 1, none⟩ = some (.slice A n c) := by simp
  clear h
  by_cases hp1 : tourOk s xs
  · skip
    have HP1 := hide hp1
    by_cases hp2 : brkSize s
    · skip
      have HP2 := hide hp2
      have HF := hide (show decide (fixedOk s xs) = true from (decide_eq_true ⟨hp1, hp2⟩))
      clear hp1 hp2
      go_enter Try.func114, Try.ntmps114
      go_wp2_with (first | (go_at_call 93; refine (iTourOk_any _ _ _ _ xs _ (H_h.out.ext HE0.out)).mono ?_; rw [decide_eq_true HP1.out]; rintro e w1 ⟨rfl, hE1⟩; have b0_1 := hE1.get b0_0; have b1_1 := hE1.get b1_0) | (go_at_call 163; refine (isBracketSize_any _ _).mono ?_; rw [decide_eq_true HP2.out]; rintro e w' ⟨rfl, rfl⟩))
      go_ret
      exact ⟨ret_bool HF.out.symm, (HE0.out.trans hE1)⟩
    · have HP2 := hide hp2
      have HF := hide (show (decide (fixedOk s xs)) = false from by
        rw [decide_eq_false_iff_not]
        unfold fixedOk
        intro hh; exact HP2.out (by first | exact hh.1 | exact hh.2.1 | exact hh.2.2.1 | exact hh.2.2 | exact hh.2.2.2 | exact hh.2.2.2.1 | exact hh | (have := hh; omega) | simp_all))
      clear hp1 hp2
      go_enter Try.func114, Try.ntmps114
      go_wp2_with (first | (go_at_call 93; refine (iTourOk_any _ _ _ _ xs _ (H_h.out.ext HE0.out)).mono ?_; rw [decide_eq_true HP1.out]; rintro e w1 ⟨rfl, hE1⟩; have b0_1 := hE1.get b0_0; have b1_1 := hE1.get b1_0) | (go_at_call 163; refine (isBracketSize_any _ _).mono ?_; rw [decide_eq_false HP2.out]; rintro e w' ⟨rfl, rfl⟩))
      go_ret
      exact ⟨ret_bool HF.out.symm, (HE0.out.trans hE1)⟩
  · have HP1 := hide hp1
    have HF := hide (show (decide (fixedOk s xs)) = false from by
      rw [decide_eq_false_iff_not]
      unfold fixedOk
      intro hh; exact HP1.out (by first | exact hh.1 | exact hh.2.1 | exact hh.2.2.1 | exact hh.2.2 | exact hh.2.2.2 | exact hh.2.2.2.1 | exact hh | (have := hh; omega) | simp_all))
    clear hp1
    go_enter Try.func114, Try.ntmps114
    go_wp2_with (first | (go_at_call 93; refine (iTourOk_any _ _ _ _ xs _ (H_h.out.ext HE0.out)).mono ?_; rw [decide_eq_false HP1.out]; rintro e w1 ⟨rfl, hE1⟩; have b0_1 := hE1.get b0_0; have b1_1 := hE1.get b1_0))
    go_ret
    exact ⟨ret_bool HF.out.symm, (HE0.out.trans hE1)⟩
-- spec.l02Player
theorem l02Player_any (s : Int) (A : Option Addr) (n c : Nat) (xs : List Int) (a : Int) (w : World) (h : Ints w A n c xs) :
    Calls Try.prog 109 #[.agg #[.int .i64 s, .slice A n c], .int .i64 a] w fun e w' => e = .returned (.bool (decide (tourOk s xs ∧ 0 ≤ a ∧ a ≤ s - 1))) ∧ Ext w w' := by
  have H_h := hide h
  have HE0 := hide (Ext.one w (.cells #[.int .i64 s, .slice A n c] 33))
  have b0_0 : (w.alloc (.cells #[.int .i64 s, .slice A n c] 33)).cell? ⟨w.heap.size, 0, none⟩ = some (.int .i64 s) := by simp
  have b1_0 : (w.alloc (.cells #[.int .i64 s, .slice A n c] 33)).cell? ⟨w.heap.size, 1, none⟩ = some (.slice A n c) := by simp
  clear h
  by_cases hp1 : tourOk s xs
  · skip
    have HP1 := hide hp1
    have hs8 := tour_s8 hp1
    by_cases hp2 : 0 ≤ a ∧ a ≤ s - 1
    · skip
      have HP2 := hide hp2
      have HF := hide (show decide (tourOk s xs ∧ 0 ≤ a ∧ a ≤ s - 1) = true from (decide_eq_true ⟨hp1, hp2⟩))
      clear hp1 hp2
      go_enter Try.func109, Try.ntmps109
      go_wp2_with (first | (go_at_call 144; refine (sTourOk_any _ _ _ _ xs _ (H_h.out.ext HE0.out)).mono ?_; rw [decide_eq_true HP1.out]; rintro e w1 ⟨rfl, hE1⟩; have b0_1 := hE1.get b0_0; have b1_1 := hE1.get b1_0) | (go_at_call 146; refine (l01In_any _ _ _ _).mono ?_; rw [decide_eq_true HP2.out]; rintro e w' ⟨rfl, rfl⟩))
      go_ret
      exact ⟨ret_bool HF.out.symm, (HE0.out.trans hE1)⟩
    · have HP2 := hide hp2
      have HF := hide (show (decide (tourOk s xs ∧ 0 ≤ a ∧ a ≤ s - 1)) = false from by
        rw [decide_eq_false_iff_not]
        intro hh; exact HP2.out (by first | exact hh.1 | exact hh.2.1 | exact hh.2.2.1 | exact hh.2.2 | exact hh.2.2.2 | exact hh.2.2.2.1 | exact hh | (have := hh; omega) | simp_all))
      clear hp1 hp2
      go_enter Try.func109, Try.ntmps109
      go_wp2_with (first | (go_at_call 144; refine (sTourOk_any _ _ _ _ xs _ (H_h.out.ext HE0.out)).mono ?_; rw [decide_eq_true HP1.out]; rintro e w1 ⟨rfl, hE1⟩; have b0_1 := hE1.get b0_0; have b1_1 := hE1.get b1_0) | (go_at_call 146; refine (l01In_any _ _ _ _).mono ?_; rw [decide_eq_false HP2.out]; rintro e w' ⟨rfl, rfl⟩))
      go_ret
      exact ⟨ret_bool HF.out.symm, (HE0.out.trans hE1)⟩
  · have HP1 := hide hp1
    have HF := hide (show (decide (tourOk s xs ∧ 0 ≤ a ∧ a ≤ s - 1)) = false from by
      rw [decide_eq_false_iff_not]
      intro hh; exact HP1.out (by first | exact hh.1 | exact hh.2.1 | exact hh.2.2.1 | exact hh.2.2 | exact hh.2.2.2 | exact hh.2.2.2.1 | exact hh | (have := hh; omega) | simp_all))
    clear hp1
    go_enter Try.func109, Try.ntmps109
    go_wp2_with (first | (go_at_call 144; refine (sTourOk_any _ _ _ _ xs _ (H_h.out.ext HE0.out)).mono ?_; rw [decide_eq_false HP1.out]; rintro e w1 ⟨rfl, hE1⟩; have b0_1 := hE1.get b0_0; have b1_1 := hE1.get b1_0))
    go_ret
    exact ⟨ret_bool HF.out.symm, (HE0.out.trans hE1)⟩

end Go.Proofs.Ytbaljgdepicigaa
