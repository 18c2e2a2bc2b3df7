/-
  Contracts of the functions that ask who can win a bracket.
-/
import Derived.Laws.ShiftsVar
import Derived.Test.YtbaljgdepicigaaDoorBase
import Derived.Test.YtbaljgdepicigaaDoorMgA
import Derived.Test.YtbaljgdepicigaaDoorLib
import Derived.Test.YtbaljgdepicigaaDoorAid
import Derived.Test.YtbaljgdepicigaaDoorGrid
import Derived.Test.YtbaljgdepicigaaDoorLibF
import Derived.Test.YtbaljgdepicigaaDoorStep
import Derived.Test.YtbaljgdepicigaaDoorPop
import Derived.Test.YtbaljgdepicigaaDoorSeed
import Derived.Test.YtbaljgdepicigaaDoorTour
import Derived.Test.YtbaljgdepicigaaDoorTourB
import Derived.Test.YtbaljgdepicigaaDoorWin
import Derived.Test.YtbaljgdepicigaaDoorWinC
namespace Go.Proofs.YtbaljgdepicigaaDoor
open Go.RowKit
set_option linter.unusedVariables false

-- words
theorem possW_no {s : Int} {xs : List Int} (h : ¬ fixedOk s xs) : possW s xs = 0 := if_neg h
-- impl.PossibleWinners
theorem iPossible_any (s : Int) (A : Option Addr) (n c : Nat) (xs : List Int) (w : World) (h : Ints w A n c xs) :
    Calls Tryd.prog 7 #[.agg #[.int .i64 s, .slice A n c]] w fun e w' => e = .returned (.int .i64 (possW s xs)) ∧ Ext w w' := by
  have HI := hide h
  obtain ⟨W, hW⟩ : ∃ W : World, W = w.alloc (.cells #[.int .i64 s, .slice A n c] 26) := ⟨_, rfl⟩
  have HE := hide (show Ext w W by rw [hW]; exact Ext.one _ _)
  have b0 : W.cell? ⟨w.heap.size, 0, none⟩ = some (.int .i64 s) := by rw [hW]; simp
  have b1 : W.cell? ⟨w.heap.size, 1, none⟩ = some (.slice A n c) := by rw [hW]; simp
  have HW := hide hW
  clear h hW
  by_cases hf : fixedOk s xs
  · have HF := hide hf
    have hs8 := tour_s8 hf.1
    have HV := hide (possW_winners hf)
    have HOK := hide (fixed_win hf).1
    have hfw := full_wrap hs8.1 hs8.2
    clear hf b0 b1
    have b0 := hide (show W.cell? ⟨w.heap.size, 0, none⟩ = some (.int .i64 s) by rw [HW.out]; simp)
    have b1 := hide (show W.cell? ⟨w.heap.size, 1, none⟩ = some (.slice A n c) by rw [HW.out]; simp)
    go_enter Tryd.func7, Tryd.ntmps7
    go_wp2_with fail
    rw [← HW.out]
    refine (isFixed_any _ _ _ _ xs _ (HI.out.ext HE.out)).mono ?_; rw [decide_eq_true HF.out]; rintro e w1 ⟨rfl, hE1⟩
    have c0 := hE1.get b0.out
    have c1 := hE1.get b1.out
    have HE1 := hide (HE.out.trans hE1)
    go_wp2
    have d0 := after_cell c0
    have d1 := after_cell c1
    clear c0 c1
    refine wp_region_ext (by kernel_rfl) (by kernel_rfl) ?_
    repeat (go_big_quiet_step ((first | (go_at_call 42; exact after_call (iWin_any _ _ _ _ xs _ _ (HI.out.ext (HE1.out.trans (After.property _))) HOK.out)))))
    refine wpQuiet_nil ?_
    rintro w5 ⟨⟨w5, hE5⟩, rfl⟩
    go_wp2
    go_ret
    exact ⟨ret_int (by rw [HV.out]), HE1.out.trans hE5⟩
  · have HF := hide hf
    have HV := hide (possW_no hf)
    clear hf
    go_enter Tryd.func7, Tryd.ntmps7
    go_wp2_with fail
    rw [← HW.out]
    refine (isFixed_any _ _ _ _ xs _ (HI.out.ext HE.out)).mono ?_; rw [decide_eq_false HF.out]; rintro e w1 ⟨rfl, hE1⟩
    go_wp2
    go_ret
    exact ⟨ret_int HV.out.symm, HE.out.trans hE1⟩
-- words
theorem shl_natW (a : Nat) (h : a < 8) : wrap64 (2 ^ a) = ((2 ^ a : Nat) : Int) ∧ (2 : Nat) ^ a ≤ 128 := by
  have h1 : (2 : Nat) ^ a ≤ 2 ^ 7 := Nat.pow_le_pow_right (by omega) (by omega)
  have h3 : ((2 ^ a : Nat) : Int) = (2 : Int) ^ a := by simp
  rw [← h3]
  generalize (2 : Nat) ^ a = p at *
  refine ⟨by unfold wrap64; omega, h1⟩
theorem and_zero (x : Int) : bits BinOp.and IntKind.i64 ((0 : Nat) : Int) x = 0 := by
  show IntKind.i64.wrap ((BitVec.ofInt 64 ((0 : Nat) : Int) &&& BitVec.ofInt 64 x).toNat : Int) = 0
  have h : (BitVec.ofInt 64 ((0 : Nat) : Int) &&& BitVec.ofInt 64 x) = 0#64 := by simp
  rw [h]; rfl
theorem half_ok {s : Int} {xs : List Int} {set x : Int} {v : Nat} (hv : winnersOf s xs set = (v : Int)) (hq : (bits BinOp.and IntKind.i64 (v : Int) x != 0) = true) : winOk s xs set := by
  by_cases h : winOk s xs set
  · exact h
  · rw [winnersOf_no h] at hv
    have : v = 0 := by omega
    subst this
    rw [and_zero] at hq
    cases hq
theorem half_bit {v : Nat} (hv : v < 256) {a : Int} (h0 : 0 ≤ a) (h7 : a ≤ 7) : (bits BinOp.and IntKind.i64 (v : Int) (wrap64 (2 ^ min a.toNat 64)) != 0) = v.testBit a.toNat := by
  obtain ⟨b, rfl⟩ : ∃ b : Nat, a = (b : Int) := ⟨a.toNat, by omega⟩
  have h1 := (shl_natW b (by omega)).1
  rw [Int.toNat_natCast, show min b 64 = b by omega, h1, bits_and_i64 _ _ (by omega) (by have := (shl_natW b (by omega)).2; omega)]
  have h2 := and_pow v hv b (by omega)
  cases ht : v.testBit b with
  | false => rw [ht] at h2; rw [h2.mpr rfl]; rfl
  | true =>
    rw [ht] at h2
    rw [bne_iff_ne]
    intro e
    have := h2.mp (Int.ofNat_eq_zero.1 e)
    cases this
-- impl.HalfFor
theorem iHalfFor_any (s : Int) (A : Option Addr) (n c : Nat) (xs : List Int) (a set : Int) (w : World) (hsw : I64 s) (haw : I64 a) (h : Ints w A n c xs) :
    Calls Tryd.prog 11 #[.agg #[.int .i64 s, .slice A n c], .int .i64 a, .int .i64 set] w fun e w' => e = .returned (.bool (decide (halfFor s xs a set))) ∧ Ext w w' := by
  have HI := hide h
  obtain ⟨W, hW⟩ : ∃ W : World, W = w.alloc (.cells #[.int .i64 s, .slice A n c] 26) := ⟨_, rfl⟩
  have HE := hide (show Ext w W by rw [hW]; exact Ext.one _ _)
  have B0 := hide (show W.cell? ⟨w.heap.size, 0, none⟩ = some (.int .i64 s) by rw [hW]; simp)
  have B1 := hide (show W.cell? ⟨w.heap.size, 1, none⟩ = some (.slice A n c) by rw [hW]; simp)
  have HW := hide hW
  clear h hW
  obtain ⟨hsw0, hsw1⟩ := hsw
  obtain ⟨haw0, haw1⟩ := haw
  obtain ⟨v, hv, hv8⟩ := winnersOf_nat s xs set
  have HV := hide hv
  clear hv
  by_cases hs0 : 0 < s
  · by_cases ha0 : a < 0
    · cases hq : (bits BinOp.and IntKind.i64 (v : Int) 1 != 0) with
      | true =>
        have HOK := hide (half_ok HV.out hq)
        have hs8 := tour_s8 HOK.out.1
        have HR := hide (show decide (0 ≤ a ∧ a ≤ s - 1) = decide (halfFor s xs a set) by rw [decide_eq_decide]; exact ⟨fun hh => absurd hh.1 (by omega), fun hh => absurd hh.2.1.1 (by omega)⟩)
        go_enter Tryd.func11, Tryd.ntmps11
        go_wp2
        rw [← HW.out]
        have d0 := after_cell B0.out
        have d1 := after_cell B1.out
        refine wp_region_ext (by kernel_rfl) (by kernel_rfl) ?_
        repeat (go_big_quiet_step ((first | (go_at_call 8; exact after_call ((iWinnersOf_any _ _ _ _ xs _ _ (HI.out.ext (HE.out.trans (After.property _)))).mono fun _ _ h => by rw [HV.out] at h; exact h)) | (go_at_call 47; exact after_call ((has_any _ _ _ _ _ _ ⟨by omega, by omega⟩).mono fun _ _ h => by rw [HR.out] at h; exact h)))))
        refine wpQuiet_nil ?_
        rintro w5 ⟨⟨w5, hE5⟩, rfl⟩
        go_wp2
        go_ret
        exact ⟨rfl, HE.out.trans hE5⟩
      | false =>
        have HR := hide (show decide (halfFor s xs a set) = false by rw [decide_eq_false_iff_not]; exact fun hh => absurd hh.2.1.1 (by omega))
        go_enter Tryd.func11, Tryd.ntmps11
        go_wp2
        rw [← HW.out]
        have d0 := after_cell B0.out
        have d1 := after_cell B1.out
        refine wp_region_ext (by kernel_rfl) (by kernel_rfl) ?_
        repeat (go_big_quiet_step ((first | (go_at_call 8; exact after_call ((iWinnersOf_any _ _ _ _ xs _ _ (HI.out.ext (HE.out.trans (After.property _)))).mono fun _ _ h => by rw [HV.out] at h; exact h)))))
        refine wpQuiet_nil ?_
        rintro w5 ⟨⟨w5, hE5⟩, rfl⟩
        go_wp2
        go_ret
        exact ⟨ret_bool HR.out.symm, HE.out.trans hE5⟩
    · cases hq : (bits BinOp.and IntKind.i64 (v : Int) (wrap64 (2 ^ min a.toNat 64)) != 0) with
      | true =>
        have HOK := hide (half_ok HV.out hq)
        have hs8 := tour_s8 HOK.out.1
        have HR := hide (show decide (0 ≤ a ∧ a ≤ s - 1) = decide (halfFor s xs a set) by rw [decide_eq_decide]; exact ⟨fun hh => ⟨HOK.out, hh, by rw [half_bit hv8 (by omega) (by omega)] at hq; unfold inSet; rw [HV.out, Int.toNat_natCast]; exact hq⟩, fun hh => hh.2.1⟩)
        go_enter Tryd.func11, Tryd.ntmps11
        go_wp2
        rw [← HW.out]
        have d0 := after_cell B0.out
        have d1 := after_cell B1.out
        refine wp_region_ext (by kernel_rfl) (by kernel_rfl) ?_
        repeat (go_big_quiet_step ((first | (go_at_call 8; exact after_call ((iWinnersOf_any _ _ _ _ xs _ _ (HI.out.ext (HE.out.trans (After.property _)))).mono fun _ _ h => by rw [HV.out] at h; exact h)) | (go_at_call 47; exact after_call ((has_any _ _ _ _ _ _ ⟨by omega, by omega⟩).mono fun _ _ h => by rw [HR.out] at h; exact h)))))
        refine wpQuiet_nil ?_
        rintro w5 ⟨⟨w5, hE5⟩, rfl⟩
        go_wp2
        go_ret
        exact ⟨rfl, HE.out.trans hE5⟩
      | false =>
        have HR := hide (show decide (halfFor s xs a set) = false by rw [decide_eq_false_iff_not]; intro hh; have h8 := tour_s8 hh.1.1; have h9 := hh.2.1; rw [half_bit hv8 (by omega) (by omega)] at hq; have h10 := hh.2.2; unfold inSet at h10; rw [HV.out, Int.toNat_natCast, hq] at h10; cases h10)
        go_enter Tryd.func11, Tryd.ntmps11
        go_wp2
        rw [← HW.out]
        have d0 := after_cell B0.out
        have d1 := after_cell B1.out
        refine wp_region_ext (by kernel_rfl) (by kernel_rfl) ?_
        repeat (go_big_quiet_step ((first | (go_at_call 8; exact after_call ((iWinnersOf_any _ _ _ _ xs _ _ (HI.out.ext (HE.out.trans (After.property _)))).mono fun _ _ h => by rw [HV.out] at h; exact h)))))
        refine wpQuiet_nil ?_
        rintro w5 ⟨⟨w5, hE5⟩, rfl⟩
        go_wp2
        go_ret
        exact ⟨ret_bool HR.out.symm, HE.out.trans hE5⟩
  · have HR := hide (show decide (halfFor s xs a set) = false by rw [decide_eq_false_iff_not]; intro hh; have := hh.1.1.1; omega)
    have hd : decide (0 < s) = false := by simpa using hs0
    go_enter Tryd.func11, Tryd.ntmps11
    go_wp2
    rw [← HW.out]
    have d0 := after_cell B0.out
    have d1 := after_cell B1.out
    refine wp_region_ext (by kernel_rfl) (by kernel_rfl) ?_
    repeat (go_big_quiet_step ((first | fail)))
    refine wpQuiet_nil ?_
    rintro w5 ⟨⟨w5, hE5⟩, rfl⟩
    go_wp2
    go_ret
    exact ⟨ret_bool HR.out.symm, HE.out.trans hE5⟩
-- impl.CanWin
theorem iCanWin_any (s : Int) (A : Option Addr) (n c : Nat) (xs : List Int) (a : Int) (w : World) (hsw : I64 s) (haw : I64 a) (h : Ints w A n c xs) :
    Calls Tryd.prog 10 #[.agg #[.int .i64 s, .slice A n c], .int .i64 a] w fun e w' => e = .returned (.bool (decide (canWin s xs a))) ∧ Ext w w' := by
  have HI := hide h
  obtain ⟨W, hW⟩ : ∃ W : World, W = w.alloc (.cells #[.int .i64 s, .slice A n c] 26) := ⟨_, rfl⟩
  have HE := hide (show Ext w W by rw [hW]; exact Ext.one _ _)
  have B0 := hide (show W.cell? ⟨w.heap.size, 0, none⟩ = some (.int .i64 s) by rw [hW]; simp)
  have B1 := hide (show W.cell? ⟨w.heap.size, 1, none⟩ = some (.slice A n c) by rw [hW]; simp)
  have HW := hide hW
  clear h hW
  by_cases hf : fixedOk s xs
  · have HF := hide hf
    have hs8 := tour_s8 hf.1
    have HC := hide (show decide (halfFor s xs a (fullS s)) = decide (canWin s xs a) by rw [decide_eq_decide]; exact (canWin_half hf).symm)
    have hfw := full_wrap hs8.1 hs8.2
    clear hf
    go_enter Tryd.func10, Tryd.ntmps10
    go_wp2
    rw [← HW.out]
    have d0 := after_cell B0.out
    have d1 := after_cell B1.out
    refine wp_region_ext (by kernel_rfl) (by kernel_rfl) ?_
    repeat (go_big_quiet_step ((first | (go_at_call 41; exact after_call ((isFixed_any _ _ _ _ xs _ (HI.out.ext (HE.out.trans (After.property _)))).mono fun _ _ h => by rw [decide_eq_true HF.out] at h; exact h)) | (go_at_call 11; exact after_call ((iHalfFor_any _ _ _ _ xs _ _ _ hsw haw (HI.out.ext (HE.out.trans (After.property _)))).mono fun _ _ h => by rw [HC.out] at h; exact h)))))
    refine wpQuiet_nil ?_
    rintro w5 ⟨⟨w5, hE5⟩, rfl⟩
    go_wp2
    go_ret
    exact ⟨rfl, HE.out.trans hE5⟩
  · have HF := hide hf
    have HC := hide (show decide (canWin s xs a) = false by rw [decide_eq_false_iff_not]; exact fun hh => hf hh.1)
    clear hf
    go_enter Tryd.func10, Tryd.ntmps10
    go_wp2
    rw [← HW.out]
    have d0 := after_cell B0.out
    have d1 := after_cell B1.out
    refine wp_region_ext (by kernel_rfl) (by kernel_rfl) ?_
    repeat (go_big_quiet_step ((first | (go_at_call 41; exact after_call ((isFixed_any _ _ _ _ xs _ (HI.out.ext (HE.out.trans (After.property _)))).mono fun _ _ h => by rw [decide_eq_false HF.out] at h; exact h)))))
    refine wpQuiet_nil ?_
    rintro w5 ⟨⟨w5, hE5⟩, rfl⟩
    go_wp2
    go_ret
    exact ⟨ret_bool HC.out.symm, HE.out.trans hE5⟩

end Go.Proofs.YtbaljgdepicigaaDoor
