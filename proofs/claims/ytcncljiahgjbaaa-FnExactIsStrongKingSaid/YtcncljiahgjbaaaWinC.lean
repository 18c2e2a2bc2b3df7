/-
  Contracts of the functions that ask who can win a bracket.
-/
import Derived.Laws.ShiftsVar
import Derived.Test.YtcncljiahgjbaaaBase
import Derived.Test.YtcncljiahgjbaaaMathA
import Derived.Test.YtcncljiahgjbaaaMathD
import Derived.Test.YtcncljiahgjbaaaLib
import Derived.Test.YtcncljiahgjbaaaAid
import Derived.Test.YtcncljiahgjbaaaGrid
import Derived.Test.YtcncljiahgjbaaaLibF
import Derived.Test.YtcncljiahgjbaaaMathB
import Derived.Test.YtcncljiahgjbaaaMathU
import Derived.Test.YtcncljiahgjbaaaMathW
import Derived.Test.YtcncljiahgjbaaaMathZ
import Derived.Test.YtcncljiahgjbaaaMathY
import Derived.Test.YtcncljiahgjbaaaStep
import Derived.Test.YtcncljiahgjbaaaPop
import Derived.Test.YtcncljiahgjbaaaSeed
import Derived.Test.YtcncljiahgjbaaaTour
import Derived.Test.YtcncljiahgjbaaaTourB
import Derived.Test.YtcncljiahgjbaaaWin
import Derived.Test.YtcncljiahgjbaaaWinB
namespace Go.Proofs.Ytcncljiahgjbaaa
open Go.RowKit
set_option linter.unusedVariables false

-- words
theorem full_wrap {s : Int} (h0 : 0 ≤ s) (h8 : s ≤ 8) : wrap64 (wrap64 (2 ^ s.toNat) - 1) = (fullS s : Int) := by
  have h2 : (2 : Nat) ^ s.toNat ≤ 2 ^ 8 := Nat.pow_le_pow_right (by omega) (by omega)
  have h3 : ((2 ^ s.toNat : Nat) : Int) = (2 : Int) ^ s.toNat := by simp
  have h4 := Nat.two_pow_pos s.toNat
  rw [← h3]
  unfold fullS
  generalize (2 : Nat) ^ s.toNat = p at *
  unfold wrap64
  omega
theorem full_wrapI {s : Int} (h0 : 0 ≤ s) (h8 : s ≤ 8) : IntKind.i64.wrap (IntKind.i64.wrap (2 ^ s.toNat) - 1) = (fullS s : Int) := by
  have h2 : (2 : Nat) ^ s.toNat ≤ 2 ^ 8 := Nat.pow_le_pow_right (by omega) (by omega)
  have h3 : ((2 ^ s.toNat : Nat) : Int) = (2 : Int) ^ s.toNat := by simp
  have h4 := Nat.two_pow_pos s.toNat
  rw [← h3]
  unfold fullS
  generalize (2 : Nat) ^ s.toNat = p at *
  rw [IntKind.wrap_i64, IntKind.wrap_i64]
  omega
theorem winnersOf_no {s : Int} {xs : List Int} {set : Int} (h : ¬ winOk s xs set) : winnersOf s xs set = 0 := if_neg h
theorem tour_s8 {s : Int} {xs : List Int} (h : tourOk s xs) : 0 ≤ s ∧ s ≤ 8 := by have := h.1; omega
-- OnesCount of a number
theorem OnesCountI_any (x : Int) (w : World) (h : 0 ≤ x ∧ x < 256) :
    Calls Try.prog 48 #[.int .u64 x] w fun e w' => e = .returned (.int .i64 (pc x.toNat : Int)) ∧ w = w' := by
  obtain ⟨m, rfl⟩ : ∃ m : Nat, x = (m : Int) := ⟨x.toNat, by omega⟩
  rw [Int.toNat_natCast]
  exact OnesCount_small m (by omega) w
-- l02Bits of a number
theorem l02BitsI_any (x : Int) (w : World) (h : 0 ≤ x ∧ x < 256) :
    Calls Try.prog 35 #[.int .i64 x] w fun e w' => e = .returned (.int .i64 (pc x.toNat : Int)) ∧ w = w' := by
  obtain ⟨m, rfl⟩ : ∃ m : Nat, x = (m : Int) := ⟨x.toNat, by omega⟩
  rw [Int.toNat_natCast]
  exact l02Bits_small m (by omega) w
-- winners of a number iWin
theorem iWin_any (s : Int) (A : Option Addr) (n c : Nat) (xs : List Int) (set : Int) (w : World) (h : Ints w A n c xs) (hw : winOk s xs set) :
    Calls Try.prog 43 #[.agg #[.int .i64 s, .slice A n c], .int .i64 set] w fun e w' => e = .returned (.int .i64 (winnersOf s xs set)) ∧ Ext w w' := by
  have h1 := winOk_set hw
  have h2 := hw.2.1
  rw [h.len] at h1
  obtain ⟨m, rfl⟩ : ∃ m : Nat, set = (m : Int) := ⟨set.toNat, by omega⟩
  rw [Int.toNat_natCast] at h1
  rw [winnersOf, if_pos hw, Int.toNat_natCast]
  exact iWinners_any s A n c xs hw.1 h.len _ m h1.1 h1.2.1 h1.2.2 w h
-- winners of a number sWin
theorem sWin_any (s : Int) (A : Option Addr) (n c : Nat) (xs : List Int) (set : Int) (w : World) (h : Ints w A n c xs) (hw : winOk s xs set) :
    Calls Try.prog 41 #[.agg #[.int .i64 s, .slice A n c], .int .i64 set] w fun e w' => e = .returned (.int .i64 (winnersOf s xs set)) ∧ Ext w w' := by
  have h1 := winOk_set hw
  have h2 := hw.2.1
  rw [h.len] at h1
  obtain ⟨m, rfl⟩ : ∃ m : Nat, set = (m : Int) := ⟨set.toNat, by omega⟩
  rw [Int.toNat_natCast] at h1
  rw [winnersOf, if_pos hw, Int.toNat_natCast]
  exact sWinners_any s A n c xs hw.1 h.len _ m h1.1 h1.2.1 h1.2.2 w h
-- spec.l02All
theorem l02All_any (s : Int) (A : Option Addr) (n c : Nat) (w : World) (hs : 0 ≤ s ∧ s ≤ 8) :
    Calls Try.prog 42 #[.agg #[.int .i64 s, .slice A n c]] w fun e w' => e = .returned (.int .i64 (fullS s : Int)) ∧ Ext w w' := by
  have HF := hide (full_wrap hs.1 hs.2)
  go_enter Try.func42, Try.ntmps42
  go_wp2
  go_ret
  exact ⟨ret_int HF.out, Ext.one _ _⟩
-- impl.isFixed
theorem isFixed_any (s : Int) (A : Option Addr) (n c : Nat) (xs : List Int) (w : World) (h : Ints w A n c xs) :
    Calls Try.prog 37 #[.agg #[.int .i64 s, .slice A n c]] w fun e w' => e = .returned (.bool (decide (fixedOk s xs))) ∧ Ext w w' := by
  have H_h := hide h
  have HE0 := hide (Ext.one w (.cells #[.int .i64 s, .slice A n c] 27))
  have b0_0 : (w.alloc (.cells #[.int .i64 s, .slice A n c] 27)).cell? ⟨w.heap.size, 0, none⟩ = some (.int .i64 s) := by simp
  have b1_0 : (w.alloc (.cells #[.int .i64 s, .slice A n c] 27)).cell? ⟨w.heap.size, 1, none⟩ = some (.slice A n c) := by simp
  clear h
  by_cases hp1 : tourOk s xs
  · skip
    have HP1 := hide hp1
    by_cases hp2 : brkSize s
    · skip
      have HP2 := hide hp2
      have HF := hide (show decide (fixedOk s xs) = true from (decide_eq_true ⟨hp1, hp2⟩))
      clear hp1 hp2
      go_enter Try.func37, Try.ntmps37
      go_wp2_with (first | (go_at_call 45; refine (iTourOk_any _ _ _ _ xs _ (H_h.out.ext HE0.out)).mono ?_; rw [decide_eq_true HP1.out]; rintro e w1 ⟨rfl, hE1⟩; have b0_1 := hE1.get b0_0; have b1_1 := hE1.get b1_0) | (go_at_call 47; refine (isBracketSize_any _ _).mono ?_; rw [decide_eq_true HP2.out]; rintro e w' ⟨rfl, rfl⟩))
      go_ret
      exact ⟨ret_bool HF.out.symm, (HE0.out.trans hE1)⟩
    · have HP2 := hide hp2
      have HF := hide (show (decide (fixedOk s xs)) = false from by
        rw [decide_eq_false_iff_not]
        unfold fixedOk
        intro hh; exact HP2.out (by first | exact hh.1 | exact hh.2.1 | exact hh.2.2.1 | exact hh.2.2 | exact hh.2.2.2 | exact hh.2.2.2.1 | exact hh | (have := hh; omega) | simp_all))
      clear hp1 hp2
      go_enter Try.func37, Try.ntmps37
      go_wp2_with (first | (go_at_call 45; refine (iTourOk_any _ _ _ _ xs _ (H_h.out.ext HE0.out)).mono ?_; rw [decide_eq_true HP1.out]; rintro e w1 ⟨rfl, hE1⟩; have b0_1 := hE1.get b0_0; have b1_1 := hE1.get b1_0) | (go_at_call 47; refine (isBracketSize_any _ _).mono ?_; rw [decide_eq_false HP2.out]; rintro e w' ⟨rfl, rfl⟩))
      go_ret
      exact ⟨ret_bool HF.out.symm, (HE0.out.trans hE1)⟩
  · have HP1 := hide hp1
    have HF := hide (show (decide (fixedOk s xs)) = false from by
      rw [decide_eq_false_iff_not]
      unfold fixedOk
      intro hh; exact HP1.out (by first | exact hh.1 | exact hh.2.1 | exact hh.2.2.1 | exact hh.2.2 | exact hh.2.2.2 | exact hh.2.2.2.1 | exact hh | (have := hh; omega) | simp_all))
    clear hp1
    go_enter Try.func37, Try.ntmps37
    go_wp2_with (first | (go_at_call 45; refine (iTourOk_any _ _ _ _ xs _ (H_h.out.ext HE0.out)).mono ?_; rw [decide_eq_false HP1.out]; rintro e w1 ⟨rfl, hE1⟩; have b0_1 := hE1.get b0_0; have b1_1 := hE1.get b1_0))
    go_ret
    exact ⟨ret_bool HF.out.symm, (HE0.out.trans hE1)⟩
-- impl.WinnersOf
theorem iWinnersOf_any (s : Int) (A : Option Addr) (n c : Nat) (xs : List Int) (set : Int) (w : World) (h : Ints w A n c xs) :
    Calls Try.prog 18 #[.agg #[.int .i64 s, .slice A n c], .int .i64 set] w fun e w' => e = .returned (.int .i64 (winnersOf s xs set)) ∧ Ext w w' := by
  have H_h := hide h
  have HE0 := hide (Ext.one w (.cells #[.int .i64 s, .slice A n c] 27))
  have b0_0 : (w.alloc (.cells #[.int .i64 s, .slice A n c] 27)).cell? ⟨w.heap.size, 0, none⟩ = some (.int .i64 s) := by simp
  have b1_0 : (w.alloc (.cells #[.int .i64 s, .slice A n c] 27)).cell? ⟨w.heap.size, 1, none⟩ = some (.slice A n c) := by simp
  clear h
  by_cases hp1 : tourOk s xs
  · skip
    have HP1 := hide hp1
    have hs8 := tour_s8 hp1
    have hfw := full_wrap hs8.1 hs8.2
    have hf256 := (fullS_ok hs8.1 hs8.2).1
    by_cases hp2 : 1 ≤ set ∧ set ≤ (fullS s : Int)
    · skip
      have HP2 := hide hp2
      have hset : 0 ≤ set ∧ set < 256 := by omega
      by_cases hp4 : brkSize (pc set.toNat)
      · skip
        have HP4 := hide hp4
        have HOK := hide (show winOk s xs set from ⟨hp1, hp2, hp4⟩)
        clear hp1 hp2 hp4
        go_enter Try.func18, Try.ntmps18
        go_wp2_with (first | (go_at_call 45; refine (iTourOk_any _ _ _ _ xs _ (H_h.out.ext HE0.out)).mono ?_; rw [decide_eq_true HP1.out]; rintro e w1 ⟨rfl, hE1⟩; have b0_1 := hE1.get b0_0; have b1_1 := hE1.get b1_0) | (go_at_call 46; refine (within_any _ _ _ _).mono ?_; rw [decide_eq_true HP2.out]; rintro e w' ⟨rfl, rfl⟩) | (go_at_call 48; refine (OnesCountI_any _ _ hset).mono ?_; rintro e w' ⟨rfl, rfl⟩) | (go_at_call 47; refine (isBracketSize_any _ _).mono ?_; rw [decide_eq_true HP4.out]; rintro e w' ⟨rfl, rfl⟩) | (go_at_call 43; refine (iWin_any _ _ _ _ xs _ _ (H_h.out.ext (HE0.out.trans hE1)) HOK.out).mono ?_; rintro e w2 ⟨rfl, hE2⟩; have b0_2 := hE2.get b0_1; have b1_2 := hE2.get b1_1))
        go_ret
        exact ⟨rfl, ((HE0.out.trans hE1).trans hE2)⟩
      · have HP4 := hide hp4
        have HF := hide (show (winnersOf s xs set) = 0 from by (exact winnersOf_no (fun hh => HP4.out hh.2.2)))
        clear hp1 hp2 hp4
        go_enter Try.func18, Try.ntmps18
        go_wp2_with (first | (go_at_call 45; refine (iTourOk_any _ _ _ _ xs _ (H_h.out.ext HE0.out)).mono ?_; rw [decide_eq_true HP1.out]; rintro e w1 ⟨rfl, hE1⟩; have b0_1 := hE1.get b0_0; have b1_1 := hE1.get b1_0) | (go_at_call 46; refine (within_any _ _ _ _).mono ?_; rw [decide_eq_true HP2.out]; rintro e w' ⟨rfl, rfl⟩) | (go_at_call 48; refine (OnesCountI_any _ _ hset).mono ?_; rintro e w' ⟨rfl, rfl⟩) | (go_at_call 47; refine (isBracketSize_any _ _).mono ?_; rw [decide_eq_false HP4.out]; rintro e w' ⟨rfl, rfl⟩))
        go_ret
        exact ⟨ret_int HF.out.symm, (HE0.out.trans hE1)⟩
    · have HP2 := hide hp2
      have HF := hide (show (winnersOf s xs set) = 0 from by (exact winnersOf_no (fun hh => HP2.out hh.2.1)))
      clear hp1 hp2
      go_enter Try.func18, Try.ntmps18
      go_wp2_with (first | (go_at_call 45; refine (iTourOk_any _ _ _ _ xs _ (H_h.out.ext HE0.out)).mono ?_; rw [decide_eq_true HP1.out]; rintro e w1 ⟨rfl, hE1⟩; have b0_1 := hE1.get b0_0; have b1_1 := hE1.get b1_0) | (go_at_call 46; refine (within_any _ _ _ _).mono ?_; rw [decide_eq_false HP2.out]; rintro e w' ⟨rfl, rfl⟩))
      go_ret
      exact ⟨ret_int HF.out.symm, (HE0.out.trans hE1)⟩
  · have HP1 := hide hp1
    have HF := hide (show (winnersOf s xs set) = 0 from by (exact winnersOf_no (fun hh => HP1.out hh.1)))
    clear hp1
    go_enter Try.func18, Try.ntmps18
    go_wp2_with (first | (go_at_call 45; refine (iTourOk_any _ _ _ _ xs _ (H_h.out.ext HE0.out)).mono ?_; rw [decide_eq_false HP1.out]; rintro e w1 ⟨rfl, hE1⟩; have b0_1 := hE1.get b0_0; have b1_1 := hE1.get b1_0))
    go_ret
    exact ⟨ret_int HF.out.symm, (HE0.out.trans hE1)⟩
-- spec.l22Ok
theorem l22Ok_any (s : Int) (A : Option Addr) (n c : Nat) (xs : List Int) (set : Int) (w : World) (h : Ints w A n c xs) :
    Calls Try.prog 44 #[.agg #[.int .i64 s, .slice A n c], .int .i64 set] w fun e w' => e = .returned (.bool (decide (winOk s xs set))) ∧ Ext w w' := by
  have H_h := hide h
  have HE0 := hide (Ext.one w (.cells #[.int .i64 s, .slice A n c] 27))
  have b0_0 : (w.alloc (.cells #[.int .i64 s, .slice A n c] 27)).cell? ⟨w.heap.size, 0, none⟩ = some (.int .i64 s) := by simp
  have b1_0 : (w.alloc (.cells #[.int .i64 s, .slice A n c] 27)).cell? ⟨w.heap.size, 1, none⟩ = some (.slice A n c) := by simp
  clear h
  by_cases hp1 : tourOk s xs
  · skip
    have HP1 := hide hp1
    have hs8 := tour_s8 hp1
    have hf256 := (fullS_ok hs8.1 hs8.2).1
    by_cases hp3 : 1 ≤ set ∧ set ≤ (fullS s : Int)
    · skip
      have HP3 := hide hp3
      have hset : 0 ≤ set ∧ set < 256 := by omega
      by_cases hp5 : brkSize (pc set.toNat)
      · skip
        have HP5 := hide hp5
        have HF := hide (show decide (winOk s xs set) = true from (decide_eq_true ⟨hp1, hp3, hp5⟩))
        clear hp1 hp3 hp5
        go_enter Try.func44, Try.ntmps44
        go_wp2_with (first | (go_at_call 40; refine (sTourOk_any _ _ _ _ xs _ (H_h.out.ext HE0.out)).mono ?_; rw [decide_eq_true HP1.out]; rintro e w1 ⟨rfl, hE1⟩; have b0_1 := hE1.get b0_0; have b1_1 := hE1.get b1_0) | (go_at_call 42; refine (l02All_any _ _ _ _ _ hs8).mono ?_; rintro e w2 ⟨rfl, hE2⟩; have b0_2 := hE2.get b0_1; have b1_2 := hE2.get b1_1) | (go_at_call 49; refine (l01In_any _ _ _ _).mono ?_; rw [decide_eq_true HP3.out]; rintro e w' ⟨rfl, rfl⟩) | (go_at_call 35; refine (l02BitsI_any _ _ hset).mono ?_; rintro e w' ⟨rfl, rfl⟩) | (go_at_call 33; refine (l21Size_any _ _).mono ?_; rw [decide_eq_true HP5.out]; rintro e w' ⟨rfl, rfl⟩))
        go_ret
        exact ⟨ret_bool HF.out.symm, ((HE0.out.trans hE1).trans hE2)⟩
      · have HP5 := hide hp5
        have HF := hide (show (decide (winOk s xs set)) = false from by
          rw [decide_eq_false_iff_not]
          unfold winOk
          intro hh; exact HP5.out (by first | exact hh.1 | exact hh.2.1 | exact hh.2.2.1 | exact hh.2.2 | exact hh.2.2.2 | exact hh.2.2.2.1 | exact hh | (have := hh; omega) | simp_all))
        clear hp1 hp3 hp5
        go_enter Try.func44, Try.ntmps44
        go_wp2_with (first | (go_at_call 40; refine (sTourOk_any _ _ _ _ xs _ (H_h.out.ext HE0.out)).mono ?_; rw [decide_eq_true HP1.out]; rintro e w1 ⟨rfl, hE1⟩; have b0_1 := hE1.get b0_0; have b1_1 := hE1.get b1_0) | (go_at_call 42; refine (l02All_any _ _ _ _ _ hs8).mono ?_; rintro e w2 ⟨rfl, hE2⟩; have b0_2 := hE2.get b0_1; have b1_2 := hE2.get b1_1) | (go_at_call 49; refine (l01In_any _ _ _ _).mono ?_; rw [decide_eq_true HP3.out]; rintro e w' ⟨rfl, rfl⟩) | (go_at_call 35; refine (l02BitsI_any _ _ hset).mono ?_; rintro e w' ⟨rfl, rfl⟩) | (go_at_call 33; refine (l21Size_any _ _).mono ?_; rw [decide_eq_false HP5.out]; rintro e w' ⟨rfl, rfl⟩))
        go_ret
        exact ⟨ret_bool HF.out.symm, ((HE0.out.trans hE1).trans hE2)⟩
    · have HP3 := hide hp3
      have HF := hide (show (decide (winOk s xs set)) = false from by
        rw [decide_eq_false_iff_not]
        unfold winOk
        intro hh; exact HP3.out (by first | exact hh.1 | exact hh.2.1 | exact hh.2.2.1 | exact hh.2.2 | exact hh.2.2.2 | exact hh.2.2.2.1 | exact hh | (have := hh; omega) | simp_all))
      clear hp1 hp3
      go_enter Try.func44, Try.ntmps44
      go_wp2_with (first | (go_at_call 40; refine (sTourOk_any _ _ _ _ xs _ (H_h.out.ext HE0.out)).mono ?_; rw [decide_eq_true HP1.out]; rintro e w1 ⟨rfl, hE1⟩; have b0_1 := hE1.get b0_0; have b1_1 := hE1.get b1_0) | (go_at_call 42; refine (l02All_any _ _ _ _ _ hs8).mono ?_; rintro e w2 ⟨rfl, hE2⟩; have b0_2 := hE2.get b0_1; have b1_2 := hE2.get b1_1) | (go_at_call 49; refine (l01In_any _ _ _ _).mono ?_; rw [decide_eq_false HP3.out]; rintro e w' ⟨rfl, rfl⟩))
      go_ret
      exact ⟨ret_bool HF.out.symm, ((HE0.out.trans hE1).trans hE2)⟩
  · have HP1 := hide hp1
    have HF := hide (show (decide (winOk s xs set)) = false from by
      rw [decide_eq_false_iff_not]
      unfold winOk
      intro hh; exact HP1.out (by first | exact hh.1 | exact hh.2.1 | exact hh.2.2.1 | exact hh.2.2 | exact hh.2.2.2 | exact hh.2.2.2.1 | exact hh | (have := hh; omega) | simp_all))
    clear hp1
    go_enter Try.func44, Try.ntmps44
    go_wp2_with (first | (go_at_call 40; refine (sTourOk_any _ _ _ _ xs _ (H_h.out.ext HE0.out)).mono ?_; rw [decide_eq_false HP1.out]; rintro e w1 ⟨rfl, hE1⟩; have b0_1 := hE1.get b0_0; have b1_1 := hE1.get b1_0))
    go_ret
    exact ⟨ret_bool HF.out.symm, (HE0.out.trans hE1)⟩
-- spec.WinnersOf
theorem sWinnersOf_any (s : Int) (A : Option Addr) (n c : Nat) (xs : List Int) (set : Int) (w : World) (h : Ints w A n c xs) :
    Calls Try.prog 17 #[.agg #[.int .i64 s, .slice A n c], .int .i64 set] w fun e w' => e = .returned (.int .i64 (winnersOf s xs set)) ∧ Ext w w' := by
  have H_h := hide h
  have HE0 := hide (Ext.one w (.cells #[.int .i64 s, .slice A n c] 27))
  have b0_0 : (w.alloc (.cells #[.int .i64 s, .slice A n c] 27)).cell? ⟨w.heap.size, 0, none⟩ = some (.int .i64 s) := by simp
  have b1_0 : (w.alloc (.cells #[.int .i64 s, .slice A n c] 27)).cell? ⟨w.heap.size, 1, none⟩ = some (.slice A n c) := by simp
  clear h
  by_cases hp1 : winOk s xs set
  · skip
    have HP1 := hide hp1
    clear hp1
    go_enter Try.func17, Try.ntmps17
    go_wp2_with (first | (go_at_call 44; refine (l22Ok_any _ _ _ _ xs _ _ (H_h.out.ext HE0.out)).mono ?_; rw [decide_eq_true HP1.out]; rintro e w1 ⟨rfl, hE1⟩; have b0_1 := hE1.get b0_0; have b1_1 := hE1.get b1_0) | (go_at_call 41; refine (sWin_any _ _ _ _ xs _ _ (H_h.out.ext (HE0.out.trans hE1)) HP1.out).mono ?_; rintro e w2 ⟨rfl, hE2⟩; have b0_2 := hE2.get b0_1; have b1_2 := hE2.get b1_1))
    go_ret
    exact ⟨rfl, ((HE0.out.trans hE1).trans hE2)⟩
  · have HP1 := hide hp1
    have HF := hide (show (winnersOf s xs set) = 0 from by
      unfold winnersOf
      rw [if_neg]
      intro hh; exact HP1.out (by first | exact hh.1 | exact hh.2.1 | exact hh.2.2.1 | exact hh.2.2 | exact hh.2.2.2 | exact hh.2.2.2.1 | exact hh | (have := hh; omega) | simp_all))
    clear hp1
    go_enter Try.func17, Try.ntmps17
    go_wp2_with (first | (go_at_call 44; refine (l22Ok_any _ _ _ _ xs _ _ (H_h.out.ext HE0.out)).mono ?_; rw [decide_eq_false HP1.out]; rintro e w1 ⟨rfl, hE1⟩; have b0_1 := hE1.get b0_0; have b1_1 := hE1.get b1_0))
    go_ret
    exact ⟨ret_int HF.out.symm, (HE0.out.trans hE1)⟩
-- spec.l02Player
theorem l02Player_any (s : Int) (A : Option Addr) (n c : Nat) (xs : List Int) (a : Int) (w : World) (h : Ints w A n c xs) :
    Calls Try.prog 32 #[.agg #[.int .i64 s, .slice A n c], .int .i64 a] w fun e w' => e = .returned (.bool (decide (tourOk s xs ∧ 0 ≤ a ∧ a ≤ s - 1))) ∧ Ext w w' := by
  have H_h := hide h
  have HE0 := hide (Ext.one w (.cells #[.int .i64 s, .slice A n c] 27))
  have b0_0 : (w.alloc (.cells #[.int .i64 s, .slice A n c] 27)).cell? ⟨w.heap.size, 0, none⟩ = some (.int .i64 s) := by simp
  have b1_0 : (w.alloc (.cells #[.int .i64 s, .slice A n c] 27)).cell? ⟨w.heap.size, 1, none⟩ = some (.slice A n c) := by simp
  clear h
  by_cases hp1 : tourOk s xs
  · skip
    have HP1 := hide hp1
    have hs8 := tour_s8 hp1
    by_cases hp2 : 0 ≤ a ∧ a ≤ s - 1
    · skip
      have HP2 := hide hp2
      have HF := hide (show decide (tourOk s xs ∧ 0 ≤ a ∧ a ≤ s - 1) = true from (decide_eq_true ⟨hp1, hp2⟩))
      clear hp1 hp2
      go_enter Try.func32, Try.ntmps32
      go_wp2_with (first | (go_at_call 40; refine (sTourOk_any _ _ _ _ xs _ (H_h.out.ext HE0.out)).mono ?_; rw [decide_eq_true HP1.out]; rintro e w1 ⟨rfl, hE1⟩; have b0_1 := hE1.get b0_0; have b1_1 := hE1.get b1_0) | (go_at_call 49; refine (l01In_any _ _ _ _).mono ?_; rw [decide_eq_true HP2.out]; rintro e w' ⟨rfl, rfl⟩))
      go_ret
      exact ⟨ret_bool HF.out.symm, (HE0.out.trans hE1)⟩
    · have HP2 := hide hp2
      have HF := hide (show (decide (tourOk s xs ∧ 0 ≤ a ∧ a ≤ s - 1)) = false from by
        rw [decide_eq_false_iff_not]
        intro hh; exact HP2.out (by first | exact hh.1 | exact hh.2.1 | exact hh.2.2.1 | exact hh.2.2 | exact hh.2.2.2 | exact hh.2.2.2.1 | exact hh | (have := hh; omega) | simp_all))
      clear hp1 hp2
      go_enter Try.func32, Try.ntmps32
      go_wp2_with (first | (go_at_call 40; refine (sTourOk_any _ _ _ _ xs _ (H_h.out.ext HE0.out)).mono ?_; rw [decide_eq_true HP1.out]; rintro e w1 ⟨rfl, hE1⟩; have b0_1 := hE1.get b0_0; have b1_1 := hE1.get b1_0) | (go_at_call 49; refine (l01In_any _ _ _ _).mono ?_; rw [decide_eq_false HP2.out]; rintro e w' ⟨rfl, rfl⟩))
      go_ret
      exact ⟨ret_bool HF.out.symm, (HE0.out.trans hE1)⟩
  · have HP1 := hide hp1
    have HF := hide (show (decide (tourOk s xs ∧ 0 ≤ a ∧ a ≤ s - 1)) = false from by
      rw [decide_eq_false_iff_not]
      intro hh; exact HP1.out (by first | exact hh.1 | exact hh.2.1 | exact hh.2.2.1 | exact hh.2.2 | exact hh.2.2.2 | exact hh.2.2.2.1 | exact hh | (have := hh; omega) | simp_all))
    clear hp1
    go_enter Try.func32, Try.ntmps32
    go_wp2_with (first | (go_at_call 40; refine (sTourOk_any _ _ _ _ xs _ (H_h.out.ext HE0.out)).mono ?_; rw [decide_eq_false HP1.out]; rintro e w1 ⟨rfl, hE1⟩; have b0_1 := hE1.get b0_0; have b1_1 := hE1.get b1_0))
    go_ret
    exact ⟨ret_bool HF.out.symm, (HE0.out.trans hE1)⟩

end Go.Proofs.Ytcncljiahgjbaaa
