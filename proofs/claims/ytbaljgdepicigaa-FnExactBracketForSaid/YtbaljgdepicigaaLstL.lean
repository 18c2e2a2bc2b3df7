/-
  The law on the first bracket that a player wins.
-/
import Derived.Laws.ShiftsVar
import Derived.Test.YtbaljgdepicigaaBase
import Derived.Test.YtbaljgdepicigaaMathA
import Derived.Test.YtbaljgdepicigaaMathD
import Derived.Test.YtbaljgdepicigaaLib
import Derived.Test.YtbaljgdepicigaaAid
import Derived.Test.YtbaljgdepicigaaStep
import Derived.Test.YtbaljgdepicigaaGrid
import Derived.Test.YtbaljgdepicigaaLibF
import Derived.Test.YtbaljgdepicigaaMathB
import Derived.Test.YtbaljgdepicigaaMathU
import Derived.Test.YtbaljgdepicigaaMathX
import Derived.Test.YtbaljgdepicigaaMathS
import Derived.Test.YtbaljgdepicigaaMathP
import Derived.Test.YtbaljgdepicigaaMathR
import Derived.Test.YtbaljgdepicigaaMathW
import Derived.Test.YtbaljgdepicigaaMathZ
import Derived.Test.YtbaljgdepicigaaMathY
import Derived.Test.YtbaljgdepicigaaMathE
import Derived.Test.YtbaljgdepicigaaSeed
import Derived.Test.YtbaljgdepicigaaTour
import Derived.Test.YtbaljgdepicigaaTourB
import Derived.Test.YtbaljgdepicigaaBrack
import Derived.Test.YtbaljgdepicigaaBrackB
import Derived.Test.YtbaljgdepicigaaDblB
import Derived.Test.YtbaljgdepicigaaPop
import Derived.Test.YtbaljgdepicigaaWin
import Derived.Test.YtbaljgdepicigaaWinB
import Derived.Test.YtbaljgdepicigaaWinC
import Derived.Test.YtbaljgdepicigaaWinD
import Derived.Test.YtbaljgdepicigaaRangeA
import Derived.Test.YtbaljgdepicigaaFillA
import Derived.Test.YtbaljgdepicigaaFillB
import Derived.Test.YtbaljgdepicigaaFillC
import Derived.Test.YtbaljgdepicigaaFillD
import Derived.Test.YtbaljgdepicigaaFillE
import Derived.Test.YtbaljgdepicigaaFillF
import Derived.Test.YtbaljgdepicigaaFillG
import Derived.Test.YtbaljgdepicigaaRangeB
import Derived.Test.YtbaljgdepicigaaExtA
import Derived.Test.YtbaljgdepicigaaExtB
import Derived.Test.YtbaljgdepicigaaExtC
import Derived.Test.YtbaljgdepicigaaExtF
import Derived.Test.YtbaljgdepicigaaLstA
import Derived.Test.YtbaljgdepicigaaLstB
namespace Go.Proofs.Ytbaljgdepicigaa
open Go.RowKit
set_option linter.unusedVariables false

-- law BracketFor
theorem law_BracketFor (s0 : Int) (A0 : Option Addr) (n0 c0 : Nat) (xs0 : List Int) (a1 : Int) (w : World) (hi0 : I64 s0) (h0 : Ints w A0 n0 c0 xs0) (hi1 : I64 a1) :
    Calls Try.prog 8 #[.agg #[.int .i64 s0, .slice A0 n0 c0], .int .i64 a1] w fun e w' => e = .returned (.bool true) ∧ Ext w w' := by
  have hl0 := h0.len; subst hl0
  have HI0 := hide h0; clear h0
  by_cases hs0 : (xs0.length : Int) ≤ 1048576
  · skip
    have hb0 : xs0.length ≤ 1048576 := by omega
    have hln := brkV_len s0 xs0 a1
    go_enter Try.func8, Try.ntmps8
    go_wp2_with fail
    obtain ⟨w1, hW⟩ : ∃ W : World, W = w.alloc (.cells #[.int .i64 s0, .slice A0 xs0.length c0] 51) := ⟨_, rfl⟩
    rw [← hW]
    have hE : Ext w w1 := by rw [hW]; exact Ext.one _ _
    have Cb0 : w1.cell? ⟨w.heap.size, 0, none⟩ = some (.int .i64 s0) := by rw [hW]; simp
    have Cb1 : w1.cell? ⟨w.heap.size, 1, none⟩ = some (.slice A0 xs0.length c0) := by rw [hW]; simp
    have hzq1 : w.heap.size + 1 ≤ w1.heap.size := by rw [hW]; simp
    clear hW
    have hz1 := hE.size
    have HE := hide hE
    clear hE
    have HSZ := hide (szLeft_yes (n := xs0.length) (left := 1048576) (by omega))
    go_wp2_with fail
    refine (szTour_any _ _ _ _ _ _ (by have := HI0.out.le; have := HI0.out.max; omega) (by omega) (by omega)).mono ?_; rw [HSZ.out]; rintro e w2 ⟨rfl, hE⟩
    replace Cb0 := hE.get Cb0; replace Cb1 := hE.get Cb1
    have hz2 := hE.size
    replace HE := hide (HE.out.trans hE)
    clear hE
    clear HSZ
    go_wp2_with fail
    refine (toTour_any s0 _ _ _ xs0 _ (HI0.out.ext HE.out) (by omega)).mono ?_; rintro e w3 ⟨At1, ct1, rfl, ho, hE⟩
    replace Cb0 := hE.get Cb0; replace Cb1 := hE.get Cb1
    have hz3 := hE.size
    replace HE := hide (HE.out.trans hE)
    clear hE
    have HOt1 := hide (InI.mk_ ho); clear ho
    go_wp2_with fail
    refine (sBracketFor_any s0 _ _ _ xs0 a1 _ HOt1.out.ints).mono ?_; rintro e w4 ⟨Aw0, cw0, rfl, ho0, hE⟩
    replace HOt1 := hide (HOt1.out.ext hE)
    replace Cb0 := hE.get Cb0; replace Cb1 := hE.get Cb1
    have hz4 := hE.size
    replace HE := hide (HE.out.trans hE)
    clear hE
    have HOw0 := hide (InI.mk_ ho0); clear ho0
    go_wp2_with fail
    refine (toTour_any s0 _ _ _ xs0 _ (HI0.out.ext HE.out) (by omega)).mono ?_; rintro e w5 ⟨Ax0, cx0, rfl, ho, hE⟩
    replace HOt1 := hide (HOt1.out.ext hE)
    replace HOw0 := hide (HOw0.out.ext hE)
    replace Cb0 := hE.get Cb0; replace Cb1 := hE.get Cb1
    have hz5 := hE.size
    replace HE := hide (HE.out.trans hE)
    clear hE
    have HOx0 := hide (InI.mk_ ho); clear ho
    go_wp2_with fail
    obtain ⟨w6, hW⟩ : ∃ W : World, W = w5.alloc (.cells #[.int .i64 s0, .slice Ax0 xs0.length cx0] 33) := ⟨_, rfl⟩
    rw [← hW]
    have hE : Ext w5 w6 := by rw [hW]; exact Ext.one _ _
    have Cx00 : w6.cell? ⟨w5.heap.size, 0, none⟩ = some (.int .i64 s0) := by rw [hW]; simp
    have Cx01 : w6.cell? ⟨w5.heap.size, 1, none⟩ = some (.slice Ax0 xs0.length cx0) := by rw [hW]; simp
    have hzq6 : w5.heap.size + 1 ≤ w6.heap.size := by rw [hW]; simp
    clear hW
    replace HOt1 := hide (HOt1.out.ext hE)
    replace HOw0 := hide (HOw0.out.ext hE)
    replace HOx0 := hide (HOx0.out.ext hE)
    replace Cb0 := hE.get Cb0; replace Cb1 := hE.get Cb1
    have hz6 := hE.size
    replace HE := hide (HE.out.trans hE)
    clear hE
    go_wp2_with fail
    refine (iBracketFor_any s0 _ _ _ xs0 a1 _ HOx0.out.ints).mono ?_; rintro e w7 ⟨Ag0, cg0, rfl, ho0, hE⟩
    replace HOt1 := hide (HOt1.out.ext hE)
    replace HOw0 := hide (HOw0.out.ext hE)
    replace HOx0 := hide (HOx0.out.ext hE)
    replace Cb0 := hE.get Cb0; replace Cb1 := hE.get Cb1
    replace Cx00 := hE.get Cx00; replace Cx01 := hE.get Cx01
    have hz7 := hE.size
    replace HE := hide (HE.out.trans hE)
    clear hE
    have HOg0 := hide (InI.mk_ ho0); clear ho0
    go_wp2_with fail
    refine (eqIntS_any _ _ _ (brkV s0 xs0 a1) _ _ _ (brkV s0 xs0 a1) _ HOg0.out.ints HOw0.out.ints).mono ?_; rintro e w8 ⟨rfl, hE⟩
    replace HOt1 := hide (HOt1.out.ext hE)
    replace HOw0 := hide (HOw0.out.ext hE)
    replace HOx0 := hide (HOx0.out.ext hE)
    replace HOg0 := hide (HOg0.out.ext hE)
    replace Cb0 := hE.get Cb0; replace Cb1 := hE.get Cb1
    replace Cx00 := hE.get Cx00; replace Cx01 := hE.get Cx01
    have hz8 := hE.size
    replace HE := hide (HE.out.trans hE)
    clear hE
    go_wp2_with fail
    go_region_held3 (fun w' => w'.cell? ⟨w.heap.size, 0, none⟩ = some (.int .i64 s0) ∧ w'.cell? ⟨w.heap.size, 1, none⟩ = some (.slice A0 xs0.length c0) ∧ w'.cell? ⟨w5.heap.size, 0, none⟩ = some (.int .i64 s0) ∧ w'.cell? ⟨w5.heap.size, 1, none⟩ = some (.slice Ax0 xs0.length cx0))
      (first | exact ⟨Cb0, Cb1, Cx00, Cx01⟩ | exact ⟨hEa.get Cb0, hEa.get Cb1, hEa.get Cx00, hEa.get Cx01⟩ | exact ⟨hEb.get (hEa.get Cb0), hEb.get (hEa.get Cb1), hEb.get (hEa.get Cx00), hEb.get (hEa.get Cx01)⟩)
      (first | (go_at_call 44; refine (toTour_any s0 _ _ _ xs0 _ (HI0.out.ext HE.out.drew) (by omega)).mono ?_; rintro e w9 ⟨At, ct, rfl, ho, hEa⟩) | (go_at_call 46; refine (eqTour_any _ _ _ _ (xs0) _ _ _ _ xs0 _ (HOx0.out.ints.ext ((Ext.refl _).drew.trans hEa)) ho.ints).mono ?_; rintro e w10 ⟨rfl, hEb⟩))
    clear ho
    have hE : Ext w8 w9 := (Ext.refl _).drew.trans hEa
    clear hEa
    replace HOt1 := hide (HOt1.out.ext hE)
    replace HOw0 := hide (HOw0.out.ext hE)
    replace HOx0 := hide (HOx0.out.ext hE)
    replace HOg0 := hide (HOg0.out.ext hE)
    replace Cb0 := hE.get Cb0; replace Cb1 := hE.get Cb1
    replace Cx00 := hE.get Cx00; replace Cx01 := hE.get Cx01
    have hz9 := hE.size
    replace HE := hide (HE.out.trans hE)
    clear hE
    replace HOt1 := hide (HOt1.out.ext hEb)
    replace HOw0 := hide (HOw0.out.ext hEb)
    replace HOx0 := hide (HOx0.out.ext hEb)
    replace HOg0 := hide (HOg0.out.ext hEb)
    replace Cb0 := hEb.get Cb0; replace Cb1 := hEb.get Cb1
    replace Cx00 := hEb.get Cx00; replace Cx01 := hEb.get Cx01
    have hz10 := hEb.size
    replace HE := hide (HE.out.trans hEb)
    clear hEb
    go_wp2_with fail
    refine (markTour_in _ _ _ _ (xs0) _ _ HOx0.out (by omega) (by omega)).mono ?_; rintro e w11 ⟨rfl, ho, hg⟩
    have hz11 := hg.size
    replace HOt1 := hide (HOt1.out.only hg (by omega))
    replace HOw0 := hide (HOw0.out.only hg (by omega))
    replace HOg0 := hide (HOg0.out.only hg (by omega))
    replace HE := hide (HE.out.only hg (by omega))
    replace Cb0 := hg.get Cb0 (by omega); replace Cb1 := hg.get Cb1 (by omega)
    replace Cx00 := hg.get Cx00 (by omega); replace Cx01 := hg.get Cx01 (by omega)
    replace HOx0 := hide ho; clear ho hg
    go_wp2_with fail
    refine (eqIntS_any _ _ _ (brkV s0 xs0 a1) _ _ _ (brkV s0 xs0 a1) _ HOg0.out.ints HOw0.out.ints).mono ?_; rintro e w12 ⟨rfl, hE⟩
    replace HOt1 := hide (HOt1.out.ext hE)
    replace HOw0 := hide (HOw0.out.ext hE)
    replace HOx0 := hide (HOx0.out.ext hE)
    replace HOg0 := hide (HOg0.out.ext hE)
    replace Cb0 := hE.get Cb0; replace Cb1 := hE.get Cb1
    replace Cx00 := hE.get Cx00; replace Cx01 := hE.get Cx01
    have hz12 := hE.size
    replace HE := hide (HE.out.trans hE)
    clear hE
    go_wp2_with fail
    refine (markIntS_in _ _ _ (brkV s0 xs0 a1) _ _ HOg0.out (by omega) (by omega)).mono ?_; rintro e w13 ⟨rfl, ho, hg⟩
    have hz13 := hg.size
    replace HOt1 := hide (HOt1.out.only hg (by omega))
    replace HOw0 := hide (HOw0.out.only hg (by omega))
    replace HOx0 := hide (HOx0.out.only hg (by omega))
    replace HE := hide (HE.out.only hg (by omega))
    replace Cb0 := hg.get Cb0 (by omega); replace Cb1 := hg.get Cb1 (by omega)
    replace Cx00 := hg.get Cx00 (by omega); replace Cx01 := hg.get Cx01 (by omega)
    replace HOg0 := hide ho; clear ho hg
    go_wp2_with fail
    refine (heldIntS_any _ _ _ _ _ HOg0.out.ints (by omega) (by omega)).mono ?_; rintro e w' ⟨rfl, rfl⟩
    go_wp2_with fail
    refine (toTour_any s0 _ _ _ xs0 _ (HI0.out.ext HE.out) (by omega)).mono ?_; rintro e w14 ⟨At3, ct3, rfl, ho, hE⟩
    replace HOt1 := hide (HOt1.out.ext hE)
    replace HOw0 := hide (HOw0.out.ext hE)
    replace HOx0 := hide (HOx0.out.ext hE)
    replace HOg0 := hide (HOg0.out.ext hE)
    replace Cb0 := hE.get Cb0; replace Cb1 := hE.get Cb1
    replace Cx00 := hE.get Cx00; replace Cx01 := hE.get Cx01
    have hz14 := hE.size
    replace HE := hide (HE.out.trans hE)
    clear hE
    have HOt3 := hide (InI.mk_ ho); clear ho
    go_wp2_with fail
    refine (iBracketFor_any s0 _ _ _ xs0 a1 _ HOt3.out.ints).mono ?_; rintro e w15 ⟨Ah0, ch0, rfl, ho0, hE⟩
    replace HOt1 := hide (HOt1.out.ext hE)
    replace HOw0 := hide (HOw0.out.ext hE)
    replace HOx0 := hide (HOx0.out.ext hE)
    replace HOg0 := hide (HOg0.out.ext hE)
    replace HOt3 := hide (HOt3.out.ext hE)
    replace Cb0 := hE.get Cb0; replace Cb1 := hE.get Cb1
    replace Cx00 := hE.get Cx00; replace Cx01 := hE.get Cx01
    have hz15 := hE.size
    replace HE := hide (HE.out.trans hE)
    clear hE
    have HOh0 := hide (InI.mk_ ho0); clear ho0
    go_wp2_with fail
    refine (eqIntS_any _ _ _ (brkV s0 xs0 a1) _ _ _ (brkV s0 xs0 a1) _ HOh0.out.ints HOw0.out.ints).mono ?_; rintro e w16 ⟨rfl, hE⟩
    replace HOt1 := hide (HOt1.out.ext hE)
    replace HOw0 := hide (HOw0.out.ext hE)
    replace HOx0 := hide (HOx0.out.ext hE)
    replace HOg0 := hide (HOg0.out.ext hE)
    replace HOt3 := hide (HOt3.out.ext hE)
    replace HOh0 := hide (HOh0.out.ext hE)
    replace Cb0 := hE.get Cb0; replace Cb1 := hE.get Cb1
    replace Cx00 := hE.get Cx00; replace Cx01 := hE.get Cx01
    have hz16 := hE.size
    replace HE := hide (HE.out.trans hE)
    clear hE
    go_wp2_with fail
    refine (heldIntS_any _ _ _ _ _ HOg0.out.ints (by omega) (by omega)).mono ?_; rintro e w' ⟨rfl, rfl⟩
    go_wp2
    go_ret
    exact ⟨by first | rfl | simp, HE.out⟩
  · go_enter Try.func8, Try.ntmps8
    go_wp2_with fail
    obtain ⟨w1, hW⟩ : ∃ W : World, W = w.alloc (.cells #[.int .i64 s0, .slice A0 xs0.length c0] 51) := ⟨_, rfl⟩
    rw [← hW]
    have hE : Ext w w1 := by rw [hW]; exact Ext.one _ _
    have Cb0 : w1.cell? ⟨w.heap.size, 0, none⟩ = some (.int .i64 s0) := by rw [hW]; simp
    have Cb1 : w1.cell? ⟨w.heap.size, 1, none⟩ = some (.slice A0 xs0.length c0) := by rw [hW]; simp
    have hzq1 : w.heap.size + 1 ≤ w1.heap.size := by rw [hW]; simp
    clear hW
    have hz1 := hE.size
    have HE := hide hE
    clear hE
    have HSZ := hide (szLeft_no (n := xs0.length) (left := 1048576) (by omega))
    go_wp2_with fail
    refine (szTour_any _ _ _ _ _ _ (by have := HI0.out.le; have := HI0.out.max; omega) (by omega) (by omega)).mono ?_; rw [HSZ.out]; rintro e w2 ⟨rfl, hE⟩
    replace Cb0 := hE.get Cb0; replace Cb1 := hE.get Cb1
    have hz2 := hE.size
    replace HE := hide (HE.out.trans hE)
    clear hE
    clear HSZ
    go_wp2
    go_ret
    exact ⟨rfl, HE.out⟩

end Go.Proofs.Ytbaljgdepicigaa
