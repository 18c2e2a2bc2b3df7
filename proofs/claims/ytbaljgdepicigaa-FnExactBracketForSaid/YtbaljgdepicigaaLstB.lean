/-
  The least bracket that a player wins: the reference's answer is the first one in order.
-/
import Derived.Deep.RegionHeld3
import Derived.Laws.ShiftsVar
import Derived.Test.YtbaljgdepicigaaBase
import Derived.Test.YtbaljgdepicigaaMathA
import Derived.Test.YtbaljgdepicigaaMathD
import Derived.Test.YtbaljgdepicigaaLib
import Derived.Test.YtbaljgdepicigaaAid
import Derived.Test.YtbaljgdepicigaaStep
import Derived.Test.YtbaljgdepicigaaGrid
import Derived.Test.YtbaljgdepicigaaLibF
import Derived.Test.YtbaljgdepicigaaMathB
import Derived.Test.YtbaljgdepicigaaMathU
import Derived.Test.YtbaljgdepicigaaMathX
import Derived.Test.YtbaljgdepicigaaMathS
import Derived.Test.YtbaljgdepicigaaMathP
import Derived.Test.YtbaljgdepicigaaMathR
import Derived.Test.YtbaljgdepicigaaMathW
import Derived.Test.YtbaljgdepicigaaMathZ
import Derived.Test.YtbaljgdepicigaaMathY
import Derived.Test.YtbaljgdepicigaaMathE
import Derived.Test.YtbaljgdepicigaaSeed
import Derived.Test.YtbaljgdepicigaaTour
import Derived.Test.YtbaljgdepicigaaTourB
import Derived.Test.YtbaljgdepicigaaBrack
import Derived.Test.YtbaljgdepicigaaBrackB
import Derived.Test.YtbaljgdepicigaaDblB
import Derived.Test.YtbaljgdepicigaaPop
import Derived.Test.YtbaljgdepicigaaWin
import Derived.Test.YtbaljgdepicigaaWinB
import Derived.Test.YtbaljgdepicigaaWinC
import Derived.Test.YtbaljgdepicigaaWinD
import Derived.Test.YtbaljgdepicigaaRangeA
import Derived.Test.YtbaljgdepicigaaFillA
import Derived.Test.YtbaljgdepicigaaFillB
import Derived.Test.YtbaljgdepicigaaFillC
import Derived.Test.YtbaljgdepicigaaFillD
import Derived.Test.YtbaljgdepicigaaFillE
import Derived.Test.YtbaljgdepicigaaFillF
import Derived.Test.YtbaljgdepicigaaFillG
import Derived.Test.YtbaljgdepicigaaRangeB
import Derived.Test.YtbaljgdepicigaaExtA
import Derived.Test.YtbaljgdepicigaaExtB
import Derived.Test.YtbaljgdepicigaaExtC
import Derived.Test.YtbaljgdepicigaaExtF
import Derived.Test.YtbaljgdepicigaaLstA
namespace Go.Proofs.Ytbaljgdepicigaa
open Go.RowKit
set_option linter.unusedVariables false
set_option maxRecDepth 100000

-- words
theorem brkO_yes {s : Int} {xs : List Int} {a : Int} (h : canWin s xs a) : brkO s xs a = some (least xs (lg s) a (fullS s)) := by
  unfold brkO
  rw [if_pos ⟨h.1, h.2.1⟩, first_least h.1 h.2.1, if_pos h.2.2]
theorem brkO_no {s : Int} {xs : List Int} {a : Int} (h : ¬ canWin s xs a) : brkO s xs a = none := by
  unfold brkO
  by_cases hb : brkCan s xs a
  · rw [if_pos hb, first_least hb.1 hb.2, if_neg (fun hi => h ⟨hb.1, hb.2, hi⟩)]
  · rw [if_neg hb]
-- spec.BracketFor
set_option maxHeartbeats 1000000 in
theorem sBracketFor_any (s : Int) (A : Option Addr) (n c : Nat) (xs : List Int) (a : Int) (w : World) (h : Ints w A n c xs) :
    Calls Try.prog 47 #[.agg #[.int .i64 s, .slice A n c], .int .i64 a] w (RetIB w (brkV s xs a) (brkB s xs a)) := by
  have HL := hide h.len
  have HI := hide h
  clear h
  obtain ⟨W, hW⟩ : ∃ W : World, W = w.alloc (.cells #[.int .i64 s, .slice A n c] 33) := ⟨_, rfl⟩
  have HE := hide (show Ext w W by rw [hW]; exact Ext.one _ _)
  have B0 := hide (show W.cell? ⟨w.heap.size, 0, none⟩ = some (.int .i64 s) by rw [hW]; simp)
  have B1 := hide (show W.cell? ⟨w.heap.size, 1, none⟩ = some (.slice A n c) by rw [hW]; simp)
  have HW := hide hW
  clear hW
  by_cases hs : canWin s xs a
  · have hn := tourOk_sz hs.1.1 HL.out
    have hs8 := tour_s8 hs.1.1
    have HV := hide (show brkV s xs a = least xs (lg s) a (fullS s) ∧ brkB s xs a = true by unfold brkV brkB; rw [brkO_yes hs]; exact ⟨rfl, rfl⟩)
    have HCW := hide (decide_eq_true hs)
    have hfs := fullS_ok hs8.1 hs8.2
    have hpw := brk_pw2 hs.1.2
    have han := hs.2.1
    obtain ⟨b, rfl⟩ : ∃ b : Nat, a = (b : Int) := ⟨a.toNat, by omega⟩
    have CL := hide (l22Least_any s A n c xs hs.1.1 HL.out (lg s) (fullS s) hpw.2 hfs.1 (by rw [show n = s.toNat by omega]; exact hfs.2.2) (by rw [hfs.2.1]; omega) b (by omega))
    clear hs hfs hpw han
    go_enter Try.func47, Try.ntmps47
    go_wp2_with (first
      | (rw [← HW.out]; go_at_call 117; refine (sCanWin_any _ _ _ _ xs _ _ (HI.out.ext HE.out)).mono ?_; rw [HCW.out]; rintro e w1 ⟨rfl, hE1⟩; have d0 := hE1.get B0.out; have d1 := hE1.get B1.out)
      | fail)
    have HE1 := hide (HE.out.trans hE1)
    have KS := hide (show ∀ w', Ext w1 w' → (Ext w1 w' ∧ w'.cell? ⟨w.heap.size, 0, none⟩ = some (.int .i64 s) ∧ w'.cell? ⟨w.heap.size, 1, none⟩ = some (.slice A n c)) from fun w' hh => ⟨hh, hh.get d0, hh.get d1⟩)
    clear hE1 d0 d1
    go_region_held3 (fun w' => Ext w1 w' ∧ w'.cell? ⟨w.heap.size, 0, none⟩ = some (.int .i64 s) ∧ w'.cell? ⟨w.heap.size, 1, none⟩ = some (.slice A n c))
      (first | exact KS.out _ (Ext.refl _) | exact KS.out _ (Ext.refl _).drew | exact KS.out _ ((Ext.refl _).drew.trans hE2) | exact KS.out _ (((Ext.refl _).drew.trans hE2).trans hE3))
      (first
        | (go_at_call 119; refine (l02All_any _ _ _ _ _ hs8).mono ?_; rintro e w2 ⟨rfl, hE2⟩)
        | (go_at_call 118; refine (CL.out _ (HI.out.ext ((HE1.out.drew).trans hE2))).mono ?_; rintro e w3 ⟨B, d, rfl, hoB, hE3⟩))
    have HO3 := hide hoB
    have HE3 := hide (((HE1.out.drew).trans hE2).trans hE3)
    have hz3 := (HE1.out.drew.trans hE2).size
    clear hoB hE2 hE3
    go_wp2
    go_ret2
    rw [HV.out.1, HV.out.2]
    exact RetIB.mk rfl rfl (HO3.out.mono hz3) HE3.out
  · have HV := hide (show brkV s xs a = [] ∧ brkB s xs a = false by unfold brkV brkB; rw [brkO_no hs]; exact ⟨rfl, rfl⟩)
    have HCW := hide (decide_eq_false hs)
    clear hs
    go_enter Try.func47, Try.ntmps47
    go_wp2_with (first
      | (rw [← HW.out]; go_at_call 117; refine (sCanWin_any _ _ _ _ xs _ _ (HI.out.ext HE.out)).mono ?_; rw [HCW.out]; rintro e w1 ⟨rfl, hE1⟩)
      | fail)
    go_ret2
    rw [HV.out.1, HV.out.2]
    exact RetIB.mk rfl rfl (OwI.nil _ _) (HE.out.trans hE1)

end Go.Proofs.Ytbaljgdepicigaa
