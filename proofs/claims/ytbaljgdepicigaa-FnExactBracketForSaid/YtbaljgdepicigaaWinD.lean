/-
  Contracts of the functions that ask who can win a bracket.
-/
import Derived.Laws.ShiftsVar
import Derived.Test.YtbaljgdepicigaaBase
import Derived.Test.YtbaljgdepicigaaMathA
import Derived.Test.YtbaljgdepicigaaMathD
import Derived.Test.YtbaljgdepicigaaLib
import Derived.Test.YtbaljgdepicigaaAid
import Derived.Test.YtbaljgdepicigaaGrid
import Derived.Test.YtbaljgdepicigaaLibF
import Derived.Test.YtbaljgdepicigaaMathB
import Derived.Test.YtbaljgdepicigaaMathU
import Derived.Test.YtbaljgdepicigaaMathW
import Derived.Test.YtbaljgdepicigaaMathZ
import Derived.Test.YtbaljgdepicigaaMathY
import Derived.Test.YtbaljgdepicigaaStep
import Derived.Test.YtbaljgdepicigaaPop
import Derived.Test.YtbaljgdepicigaaSeed
import Derived.Test.YtbaljgdepicigaaTour
import Derived.Test.YtbaljgdepicigaaTourB
import Derived.Test.YtbaljgdepicigaaWin
import Derived.Test.YtbaljgdepicigaaWinB
import Derived.Test.YtbaljgdepicigaaWinC
namespace Go.Proofs.Ytbaljgdepicigaa
open Go.RowKit
set_option linter.unusedVariables false

-- words
theorem possW_no {s : Int} {xs : List Int} (h : ¬ fixedOk s xs) : possW s xs = 0 := if_neg h
-- spec.PossibleWinners
theorem sPossible_any (s : Int) (A : Option Addr) (n c : Nat) (xs : List Int) (w : World) (h : Ints w A n c xs) :
    Calls Try.prog 167 #[.agg #[.int .i64 s, .slice A n c]] w fun e w' => e = .returned (.int .i64 (possW s xs)) ∧ Ext w w' := by
  have HI := hide h
  obtain ⟨W, hW⟩ : ∃ W : World, W = w.alloc (.cells #[.int .i64 s, .slice A n c] 33) := ⟨_, rfl⟩
  have HE := hide (show Ext w W by rw [hW]; exact Ext.one _ _)
  have B0 := hide (show W.cell? ⟨w.heap.size, 0, none⟩ = some (.int .i64 s) by rw [hW]; simp)
  have B1 := hide (show W.cell? ⟨w.heap.size, 1, none⟩ = some (.slice A n c) by rw [hW]; simp)
  have HW := hide hW
  clear h hW
  by_cases ht : tourOk s xs
  · have HT := hide ht
    by_cases hb : brkSize s
    · have HB := hide hb
      have hs8 := tour_s8 ht
      have HV := hide (possW_winners ⟨ht, hb⟩)
      have HOK := hide (fixed_win ⟨ht, hb⟩).1
      clear ht hb
      go_enter Try.func167, Try.ntmps167
      go_wp2_with fail
      rw [← HW.out]
      refine (sTourOk_any _ _ _ _ xs _ (HI.out.ext HE.out)).mono ?_; rw [decide_eq_true HT.out]; rintro e w1 ⟨rfl, hE1⟩
      have c0 := hE1.get B0.out
      have c1 := hE1.get B1.out
      have HE1 := hide (HE.out.trans hE1)
      go_wp2_with (go_at_call 110; refine (l21Size_any _ _).mono ?_; rw [decide_eq_true HB.out]; rintro e w' ⟨rfl, rfl⟩)
      have d0 := after_cell c0
      have d1 := after_cell c1
      clear c0 c1
      refine wp_region_ext (by kernel_rfl) (by kernel_rfl) ?_
      repeat (go_big_quiet_step ((first | (go_at_call 119; exact after_call (l02All_any _ _ _ _ _ hs8)) | (go_at_call 169; exact after_call (sWin_any _ _ _ _ xs _ _ (HI.out.ext (HE1.out.trans (After.property _))) HOK.out)))))
      refine wpQuiet_nil ?_
      rintro w5 ⟨⟨w5, hE5⟩, rfl⟩
      go_wp2
      go_ret
      exact ⟨ret_int (by rw [HV.out]), HE1.out.trans hE5⟩
    · have HB := hide hb
      have HV := hide (possW_no (s := s) (xs := xs) (fun hh => hb hh.2))
      clear ht hb
      go_enter Try.func167, Try.ntmps167
      go_wp2_with fail
      rw [← HW.out]
      refine (sTourOk_any _ _ _ _ xs _ (HI.out.ext HE.out)).mono ?_; rw [decide_eq_true HT.out]; rintro e w1 ⟨rfl, hE1⟩
      have c0 := hE1.get B0.out
      have c1 := hE1.get B1.out
      go_wp2_with (go_at_call 110; refine (l21Size_any _ _).mono ?_; rw [decide_eq_false HB.out]; rintro e w' ⟨rfl, rfl⟩)
      go_ret
      exact ⟨ret_int HV.out.symm, HE.out.trans hE1⟩
  · have HT := hide ht
    have HV := hide (possW_no (s := s) (xs := xs) (fun hh => ht hh.1))
    clear ht
    go_enter Try.func167, Try.ntmps167
    go_wp2_with fail
    rw [← HW.out]
    refine (sTourOk_any _ _ _ _ xs _ (HI.out.ext HE.out)).mono ?_; rw [decide_eq_false HT.out]; rintro e w1 ⟨rfl, hE1⟩
    go_wp2
    go_ret
    exact ⟨ret_int HV.out.symm, HE.out.trans hE1⟩
-- words
theorem shl_natW (a : Nat) (h : a < 8) : wrap64 (2 ^ a) = ((2 ^ a : Nat) : Int) ∧ (2 : Nat) ^ a ≤ 128 := by
  have h1 : (2 : Nat) ^ a ≤ 2 ^ 7 := Nat.pow_le_pow_right (by omega) (by omega)
  have h3 : ((2 ^ a : Nat) : Int) = (2 : Int) ^ a := by simp
  rw [← h3]
  generalize (2 : Nat) ^ a = p at *
  refine ⟨by unfold wrap64; omega, h1⟩
theorem and_zero (x : Int) : bits BinOp.and IntKind.i64 ((0 : Nat) : Int) x = 0 := by
  show IntKind.i64.wrap ((BitVec.ofInt 64 ((0 : Nat) : Int) &&& BitVec.ofInt 64 x).toNat : Int) = 0
  have h : (BitVec.ofInt 64 ((0 : Nat) : Int) &&& BitVec.ofInt 64 x) = 0#64 := by simp
  rw [h]; rfl
theorem half_ok {s : Int} {xs : List Int} {set x : Int} {v : Nat} (hv : winnersOf s xs set = (v : Int)) (hq : (bits BinOp.and IntKind.i64 (v : Int) x != 0) = true) : winOk s xs set := by
  by_cases h : winOk s xs set
  · exact h
  · rw [winnersOf_no h] at hv
    have : v = 0 := by omega
    subst this
    rw [and_zero] at hq
    cases hq
theorem half_bit {v : Nat} (hv : v < 256) {a : Int} (h0 : 0 ≤ a) (h7 : a ≤ 7) : (bits BinOp.and IntKind.i64 (v : Int) (wrap64 (2 ^ min a.toNat 64)) != 0) = v.testBit a.toNat := by
  obtain ⟨b, rfl⟩ : ∃ b : Nat, a = (b : Int) := ⟨a.toNat, by omega⟩
  have h1 := (shl_natW b (by omega)).1
  rw [Int.toNat_natCast, show min b 64 = b by omega, h1, bits_and_i64 _ _ (by omega) (by have := (shl_natW b (by omega)).2; omega)]
  have h2 := and_pow v hv b (by omega)
  cases ht : v.testBit b with
  | false => rw [ht] at h2; rw [h2.mpr rfl]; rfl
  | true =>
    rw [ht] at h2
    rw [bne_iff_ne]
    intro e
    have := h2.mp (Int.ofNat_eq_zero.1 e)
    cases this
-- spec.CanWin
theorem sCanWin_any (s : Int) (A : Option Addr) (n c : Nat) (xs : List Int) (a : Int) (w : World) (h : Ints w A n c xs) :
    Calls Try.prog 117 #[.agg #[.int .i64 s, .slice A n c], .int .i64 a] w fun e w' => e = .returned (.bool (decide (canWin s xs a))) ∧ Ext w w' := by
  have H_h := hide h
  have HE0 := hide (Ext.one w (.cells #[.int .i64 s, .slice A n c] 33))
  have b0_0 : (w.alloc (.cells #[.int .i64 s, .slice A n c] 33)).cell? ⟨w.heap.size, 0, none⟩ = some (.int .i64 s) := by simp
  have b1_0 : (w.alloc (.cells #[.int .i64 s, .slice A n c] 33)).cell? ⟨w.heap.size, 1, none⟩ = some (.slice A n c) := by simp
  clear h
  by_cases hp1 : tourOk s xs ∧ 0 ≤ a ∧ a ≤ s - 1
  · skip
    have HP1 := hide hp1
    have hs8 := tour_s8 hp1.1
    by_cases hp2 : brkSize s
    · skip
      have HP2 := hide hp2
      obtain ⟨v, hv, hv8⟩ := winnersOf_nat s xs (fullS s)
      have HV := hide (show possW s xs = (v : Int) by rw [possW_winners ⟨hp1.1, hp2⟩]; exact hv)
      clear hv
      have ha0 := hp1.2
      obtain ⟨b, hb⟩ : ∃ b : Nat, a = (b : Int) := ⟨a.toNat, by omega⟩
      subst hb
      have HB := hide (and_bit2 (m := (v : Int)) (by omega) (by omega) b)
      have hsh := shr_bound2 (m := (v : Int)) (by omega) b
      have HF := hide (show decide (canWin s xs (b : Int)) = (bits BinOp.and IntKind.i64 ((v : Int) / 2 ^ b) 1 == 1) from (by rw [HB.out, Bool.eq_iff_iff, decide_eq_true_eq, beq_iff_eq, bitAt_iff]; unfold canWin inSet; rw [HV.out, Int.toNat_natCast, Int.toNat_natCast]; exact ⟨fun hh => hh.2.2, fun hh => ⟨⟨hp1.1, hp2⟩, hp1.2, hh⟩⟩))
      clear hp1 hp2
      go_enter Try.func117, Try.ntmps117
      go_wp2_with (first | (go_at_call 109; refine (l02Player_any _ _ _ _ xs _ _ (H_h.out.ext HE0.out)).mono ?_; rw [decide_eq_true HP1.out]; rintro e w1 ⟨rfl, hE1⟩; have b0_1 := hE1.get b0_0; have b1_1 := hE1.get b1_0) | (go_at_call 110; refine (l21Size_any _ _).mono ?_; rw [decide_eq_true HP2.out]; rintro e w' ⟨rfl, rfl⟩) | (go_at_call 167; refine (sPossible_any _ _ _ _ xs _ (H_h.out.ext (HE0.out.trans hE1))).mono ?_; rw [HV.out]; rintro e w2 ⟨rfl, hE2⟩; have b0_2 := hE2.get b0_1; have b1_2 := hE2.get b1_1))
      go_ret
      exact ⟨ret_bool HF.out.symm, ((HE0.out.trans hE1).trans hE2)⟩
    · have HP2 := hide hp2
      have HF := hide (show (decide (canWin s xs a)) = false from by (rw [decide_eq_false_iff_not]; exact fun hh => HP2.out hh.1.2))
      clear hp1 hp2
      go_enter Try.func117, Try.ntmps117
      go_wp2_with (first | (go_at_call 109; refine (l02Player_any _ _ _ _ xs _ _ (H_h.out.ext HE0.out)).mono ?_; rw [decide_eq_true HP1.out]; rintro e w1 ⟨rfl, hE1⟩; have b0_1 := hE1.get b0_0; have b1_1 := hE1.get b1_0) | (go_at_call 110; refine (l21Size_any _ _).mono ?_; rw [decide_eq_false HP2.out]; rintro e w' ⟨rfl, rfl⟩))
      go_ret
      exact ⟨ret_bool HF.out.symm, (HE0.out.trans hE1)⟩
  · have HP1 := hide hp1
    have HF := hide (show (decide (canWin s xs a)) = false from by (rw [decide_eq_false_iff_not]; exact fun hh => HP1.out ⟨hh.1.1, hh.2.1⟩))
    clear hp1
    go_enter Try.func117, Try.ntmps117
    go_wp2_with (first | (go_at_call 109; refine (l02Player_any _ _ _ _ xs _ _ (H_h.out.ext HE0.out)).mono ?_; rw [decide_eq_false HP1.out]; rintro e w1 ⟨rfl, hE1⟩; have b0_1 := hE1.get b0_0; have b1_1 := hE1.get b1_0))
    go_ret
    exact ⟨ret_bool HF.out.symm, (HE0.out.trans hE1)⟩

end Go.Proofs.Ytbaljgdepicigaa
