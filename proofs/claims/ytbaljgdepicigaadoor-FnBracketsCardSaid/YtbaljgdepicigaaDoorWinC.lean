/-
  Contracts of the functions that ask who can win a bracket.
-/
import Derived.Laws.ShiftsVar
import Derived.Test.YtbaljgdepicigaaDoorBase
import Derived.Test.YtbaljgdepicigaaDoorMgA
import Derived.Test.YtbaljgdepicigaaDoorLib
import Derived.Test.YtbaljgdepicigaaDoorAid
import Derived.Test.YtbaljgdepicigaaDoorGrid
import Derived.Test.YtbaljgdepicigaaDoorLibF
import Derived.Test.YtbaljgdepicigaaDoorStep
import Derived.Test.YtbaljgdepicigaaDoorPop
import Derived.Test.YtbaljgdepicigaaDoorSeed
import Derived.Test.YtbaljgdepicigaaDoorTour
import Derived.Test.YtbaljgdepicigaaDoorTourB
import Derived.Test.YtbaljgdepicigaaDoorWin
namespace Go.Proofs.YtbaljgdepicigaaDoor
open Go.RowKit
set_option linter.unusedVariables false

-- words
theorem full_wrap {s : Int} (h0 : 0 ≤ s) (h8 : s ≤ 8) : wrap64 (wrap64 (2 ^ s.toNat) - 1) = (fullS s : Int) := by
  have h2 : (2 : Nat) ^ s.toNat ≤ 2 ^ 8 := Nat.pow_le_pow_right (by omega) (by omega)
  have h3 : ((2 ^ s.toNat : Nat) : Int) = (2 : Int) ^ s.toNat := by simp
  have h4 := Nat.two_pow_pos s.toNat
  rw [← h3]
  unfold fullS
  generalize (2 : Nat) ^ s.toNat = p at *
  unfold wrap64
  omega
theorem full_wrapI {s : Int} (h0 : 0 ≤ s) (h8 : s ≤ 8) : IntKind.i64.wrap (IntKind.i64.wrap (2 ^ s.toNat) - 1) = (fullS s : Int) := by
  have h2 : (2 : Nat) ^ s.toNat ≤ 2 ^ 8 := Nat.pow_le_pow_right (by omega) (by omega)
  have h3 : ((2 ^ s.toNat : Nat) : Int) = (2 : Int) ^ s.toNat := by simp
  have h4 := Nat.two_pow_pos s.toNat
  rw [← h3]
  unfold fullS
  generalize (2 : Nat) ^ s.toNat = p at *
  rw [IntKind.wrap_i64, IntKind.wrap_i64]
  omega
theorem winnersOf_no {s : Int} {xs : List Int} {set : Int} (h : ¬ winOk s xs set) : winnersOf s xs set = 0 := if_neg h
theorem tour_s8 {s : Int} {xs : List Int} (h : tourOk s xs) : 0 ≤ s ∧ s ≤ 8 := by have := h.1; omega
-- OnesCount of a number
theorem OnesCountI_any (x : Int) (w : World) (h : 0 ≤ x ∧ x < 256) :
    Calls Tryd.prog 46 #[.int .u64 x] w fun e w' => e = .returned (.int .i64 (pc x.toNat : Int)) ∧ w = w' := by
  obtain ⟨m, rfl⟩ : ∃ m : Nat, x = (m : Int) := ⟨x.toNat, by omega⟩
  rw [Int.toNat_natCast]
  exact OnesCount_small m (by omega) w
-- winners of a number iWin
theorem iWin_any (s : Int) (A : Option Addr) (n c : Nat) (xs : List Int) (set : Int) (w : World) (h : Ints w A n c xs) (hw : winOk s xs set) :
    Calls Tryd.prog 42 #[.agg #[.int .i64 s, .slice A n c], .int .i64 set] w fun e w' => e = .returned (.int .i64 (winnersOf s xs set)) ∧ Ext w w' := by
  have h1 := winOk_set hw
  have h2 := hw.2.1
  rw [h.len] at h1
  obtain ⟨m, rfl⟩ : ∃ m : Nat, set = (m : Int) := ⟨set.toNat, by omega⟩
  rw [Int.toNat_natCast] at h1
  rw [winnersOf, if_pos hw, Int.toNat_natCast]
  exact iWinners_any s A n c xs hw.1 h.len _ m h1.1 h1.2.1 h1.2.2 w h
-- impl.isFixed
theorem isFixed_any (s : Int) (A : Option Addr) (n c : Nat) (xs : List Int) (w : World) (h : Ints w A n c xs) :
    Calls Tryd.prog 41 #[.agg #[.int .i64 s, .slice A n c]] w fun e w' => e = .returned (.bool (decide (fixedOk s xs))) ∧ Ext w w' := by
  have H_h := hide h
  have HE0 := hide (Ext.one w (.cells #[.int .i64 s, .slice A n c] 26))
  have b0_0 : (w.alloc (.cells #[.int .i64 s, .slice A n c] 26)).cell? ⟨w.heap.size, 0, none⟩ = some (.int .i64 s) := by simp
  have b1_0 : (w.alloc (.cells #[.int .i64 s, .slice A n c] 26)).cell? ⟨w.heap.size, 1, none⟩ = some (.slice A n c) := by simp
  clear h
  by_cases hp1 : tourOk s xs
  · skip
    have HP1 := hide hp1
    by_cases hp2 : brkSize s
    · skip
      have HP2 := hide hp2
      have HF := hide (show decide (fixedOk s xs) = true from (decide_eq_true ⟨hp1, hp2⟩))
      clear hp1 hp2
      go_enter Tryd.func41, Tryd.ntmps41
      go_wp2_with (first | (go_at_call 43; refine (iTourOk_any _ _ _ _ xs _ (H_h.out.ext HE0.out)).mono ?_; rw [decide_eq_true HP1.out]; rintro e w1 ⟨rfl, hE1⟩; have b0_1 := hE1.get b0_0; have b1_1 := hE1.get b1_0) | (go_at_call 45; refine (isBracketSize_any _ _).mono ?_; rw [decide_eq_true HP2.out]; rintro e w' ⟨rfl, rfl⟩))
      go_ret
      exact ⟨ret_bool HF.out.symm, (HE0.out.trans hE1)⟩
    · have HP2 := hide hp2
      have HF := hide (show (decide (fixedOk s xs)) = false from by
        rw [decide_eq_false_iff_not]
        unfold fixedOk
        intro hh; exact HP2.out (by first | exact hh.1 | exact hh.2.1 | exact hh.2.2.1 | exact hh.2.2 | exact hh.2.2.2 | exact hh.2.2.2.1 | exact hh | (have := hh; omega) | simp_all))
      clear hp1 hp2
      go_enter Tryd.func41, Tryd.ntmps41
      go_wp2_with (first | (go_at_call 43; refine (iTourOk_any _ _ _ _ xs _ (H_h.out.ext HE0.out)).mono ?_; rw [decide_eq_true HP1.out]; rintro e w1 ⟨rfl, hE1⟩; have b0_1 := hE1.get b0_0; have b1_1 := hE1.get b1_0) | (go_at_call 45; refine (isBracketSize_any _ _).mono ?_; rw [decide_eq_false HP2.out]; rintro e w' ⟨rfl, rfl⟩))
      go_ret
      exact ⟨ret_bool HF.out.symm, (HE0.out.trans hE1)⟩
  · have HP1 := hide hp1
    have HF := hide (show (decide (fixedOk s xs)) = false from by
      rw [decide_eq_false_iff_not]
      unfold fixedOk
      intro hh; exact HP1.out (by first | exact hh.1 | exact hh.2.1 | exact hh.2.2.1 | exact hh.2.2 | exact hh.2.2.2 | exact hh.2.2.2.1 | exact hh | (have := hh; omega) | simp_all))
    clear hp1
    go_enter Tryd.func41, Tryd.ntmps41
    go_wp2_with (first | (go_at_call 43; refine (iTourOk_any _ _ _ _ xs _ (H_h.out.ext HE0.out)).mono ?_; rw [decide_eq_false HP1.out]; rintro e w1 ⟨rfl, hE1⟩; have b0_1 := hE1.get b0_0; have b1_1 := hE1.get b1_0))
    go_ret
    exact ⟨ret_bool HF.out.symm, (HE0.out.trans hE1)⟩
-- impl.WinnersOf
theorem iWinnersOf_any (s : Int) (A : Option Addr) (n c : Nat) (xs : List Int) (set : Int) (w : World) (h : Ints w A n c xs) :
    Calls Tryd.prog 8 #[.agg #[.int .i64 s, .slice A n c], .int .i64 set] w fun e w' => e = .returned (.int .i64 (winnersOf s xs set)) ∧ Ext w w' := by
  have H_h := hide h
  have HE0 := hide (Ext.one w (.cells #[.int .i64 s, .slice A n c] 26))
  have b0_0 : (w.alloc (.cells #[.int .i64 s, .slice A n c] 26)).cell? ⟨w.heap.size, 0, none⟩ = some (.int .i64 s) := by simp
  have b1_0 : (w.alloc (.cells #[.int .i64 s, .slice A n c] 26)).cell? ⟨w.heap.size, 1, none⟩ = some (.slice A n c) := by simp
  clear h
  by_cases hp1 : tourOk s xs
  · skip
    have HP1 := hide hp1
    have hs8 := tour_s8 hp1
    have hfw := full_wrap hs8.1 hs8.2
    have hf256 := (fullS_ok hs8.1 hs8.2).1
    by_cases hp2 : 1 ≤ set ∧ set ≤ (fullS s : Int)
    · skip
      have HP2 := hide hp2
      have hset : 0 ≤ set ∧ set < 256 := by omega
      by_cases hp4 : brkSize (pc set.toNat)
      · skip
        have HP4 := hide hp4
        have HOK := hide (show winOk s xs set from ⟨hp1, hp2, hp4⟩)
        clear hp1 hp2 hp4
        go_enter Tryd.func8, Tryd.ntmps8
        go_wp2_with (first | (go_at_call 43; refine (iTourOk_any _ _ _ _ xs _ (H_h.out.ext HE0.out)).mono ?_; rw [decide_eq_true HP1.out]; rintro e w1 ⟨rfl, hE1⟩; have b0_1 := hE1.get b0_0; have b1_1 := hE1.get b1_0) | (go_at_call 44; refine (within_any _ _ _ _).mono ?_; rw [decide_eq_true HP2.out]; rintro e w' ⟨rfl, rfl⟩) | (go_at_call 46; refine (OnesCountI_any _ _ hset).mono ?_; rintro e w' ⟨rfl, rfl⟩) | (go_at_call 45; refine (isBracketSize_any _ _).mono ?_; rw [decide_eq_true HP4.out]; rintro e w' ⟨rfl, rfl⟩) | (go_at_call 42; refine (iWin_any _ _ _ _ xs _ _ (H_h.out.ext (HE0.out.trans hE1)) HOK.out).mono ?_; rintro e w2 ⟨rfl, hE2⟩; have b0_2 := hE2.get b0_1; have b1_2 := hE2.get b1_1))
        go_ret
        exact ⟨rfl, ((HE0.out.trans hE1).trans hE2)⟩
      · have HP4 := hide hp4
        have HF := hide (show (winnersOf s xs set) = 0 from by (exact winnersOf_no (fun hh => HP4.out hh.2.2)))
        clear hp1 hp2 hp4
        go_enter Tryd.func8, Tryd.ntmps8
        go_wp2_with (first | (go_at_call 43; refine (iTourOk_any _ _ _ _ xs _ (H_h.out.ext HE0.out)).mono ?_; rw [decide_eq_true HP1.out]; rintro e w1 ⟨rfl, hE1⟩; have b0_1 := hE1.get b0_0; have b1_1 := hE1.get b1_0) | (go_at_call 44; refine (within_any _ _ _ _).mono ?_; rw [decide_eq_true HP2.out]; rintro e w' ⟨rfl, rfl⟩) | (go_at_call 46; refine (OnesCountI_any _ _ hset).mono ?_; rintro e w' ⟨rfl, rfl⟩) | (go_at_call 45; refine (isBracketSize_any _ _).mono ?_; rw [decide_eq_false HP4.out]; rintro e w' ⟨rfl, rfl⟩))
        go_ret
        exact ⟨ret_int HF.out.symm, (HE0.out.trans hE1)⟩
    · have HP2 := hide hp2
      have HF := hide (show (winnersOf s xs set) = 0 from by (exact winnersOf_no (fun hh => HP2.out hh.2.1)))
      clear hp1 hp2
      go_enter Tryd.func8, Tryd.ntmps8
      go_wp2_with (first | (go_at_call 43; refine (iTourOk_any _ _ _ _ xs _ (H_h.out.ext HE0.out)).mono ?_; rw [decide_eq_true HP1.out]; rintro e w1 ⟨rfl, hE1⟩; have b0_1 := hE1.get b0_0; have b1_1 := hE1.get b1_0) | (go_at_call 44; refine (within_any _ _ _ _).mono ?_; rw [decide_eq_false HP2.out]; rintro e w' ⟨rfl, rfl⟩))
      go_ret
      exact ⟨ret_int HF.out.symm, (HE0.out.trans hE1)⟩
  · have HP1 := hide hp1
    have HF := hide (show (winnersOf s xs set) = 0 from by (exact winnersOf_no (fun hh => HP1.out hh.1)))
    clear hp1
    go_enter Tryd.func8, Tryd.ntmps8
    go_wp2_with (first | (go_at_call 43; refine (iTourOk_any _ _ _ _ xs _ (H_h.out.ext HE0.out)).mono ?_; rw [decide_eq_false HP1.out]; rintro e w1 ⟨rfl, hE1⟩; have b0_1 := hE1.get b0_0; have b1_1 := hE1.get b1_0))
    go_ret
    exact ⟨ret_int HF.out.symm, (HE0.out.trans hE1)⟩

end Go.Proofs.YtbaljgdepicigaaDoor
