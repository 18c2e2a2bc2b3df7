/-
  The law on how many brackets a player wins.
-/
import Derived.Laws.ShiftsVar
import Derived.Test.YtbaljgdepicigaaBase
import Derived.Test.YtbaljgdepicigaaMathA
import Derived.Test.YtbaljgdepicigaaMathD
import Derived.Test.YtbaljgdepicigaaLib
import Derived.Test.YtbaljgdepicigaaAid
import Derived.Test.YtbaljgdepicigaaStep
import Derived.Test.YtbaljgdepicigaaGrid
import Derived.Test.YtbaljgdepicigaaLibF
import Derived.Test.YtbaljgdepicigaaMathB
import Derived.Test.YtbaljgdepicigaaMathU
import Derived.Test.YtbaljgdepicigaaMathS
import Derived.Test.YtbaljgdepicigaaMathP
import Derived.Test.YtbaljgdepicigaaMathR
import Derived.Test.YtbaljgdepicigaaMathW
import Derived.Test.YtbaljgdepicigaaMathZ
import Derived.Test.YtbaljgdepicigaaMathY
import Derived.Test.YtbaljgdepicigaaSeed
import Derived.Test.YtbaljgdepicigaaTour
import Derived.Test.YtbaljgdepicigaaTourB
import Derived.Test.YtbaljgdepicigaaBrack
import Derived.Test.YtbaljgdepicigaaBrackB
import Derived.Test.YtbaljgdepicigaaDblB
import Derived.Test.YtbaljgdepicigaaPop
import Derived.Test.YtbaljgdepicigaaWin
import Derived.Test.YtbaljgdepicigaaWinB
import Derived.Test.YtbaljgdepicigaaWinC
import Derived.Test.YtbaljgdepicigaaRangeA
import Derived.Test.YtbaljgdepicigaaFillA
import Derived.Test.YtbaljgdepicigaaFillB
import Derived.Test.YtbaljgdepicigaaFillC
import Derived.Test.YtbaljgdepicigaaFillD
import Derived.Test.YtbaljgdepicigaaFillE
import Derived.Test.YtbaljgdepicigaaFillF
import Derived.Test.YtbaljgdepicigaaFillG
import Derived.Test.YtbaljgdepicigaaRangeB
import Derived.Test.YtbaljgdepicigaaExtA
import Derived.Test.YtbaljgdepicigaaExtB
import Derived.Test.YtbaljgdepicigaaExtC
import Derived.Test.YtbaljgdepicigaaExtD
import Derived.Test.YtbaljgdepicigaaExtE
namespace Go.Proofs.Ytbaljgdepicigaa
open Go.RowKit
set_option linter.unusedVariables false

-- law CountBracketsFor
theorem law_CountBracketsFor (s0 : Int) (A0 : Option Addr) (n0 c0 : Nat) (xs0 : List Int) (a1 : Int) (w : World) (hi0 : I64 s0) (h0 : Ints w A0 n0 c0 xs0) (hi1 : I64 a1) :
    Calls Try.prog 7 #[.agg #[.int .i64 s0, .slice A0 n0 c0], .int .i64 a1] w fun e w' => e = .returned (.bool true) ∧ Ext w w' := by
  have hl0 := h0.len; subst hl0
  have HI0 := hide h0; clear h0
  by_cases hs0 : (xs0.length : Int) ≤ 1048576
  · skip
    have hb0 : xs0.length ≤ 1048576 := by omega
    go_enter Try.func7, Try.ntmps7
    go_wp2_with fail
    obtain ⟨w1, hW⟩ : ∃ W : World, W = w.alloc (.cells #[.int .i64 s0, .slice A0 xs0.length c0] 51) := ⟨_, rfl⟩
    rw [← hW]
    have hE : Ext w w1 := by rw [hW]; exact Ext.one _ _
    have Cb0 : w1.cell? ⟨w.heap.size, 0, none⟩ = some (.int .i64 s0) := by rw [hW]; simp
    have Cb1 : w1.cell? ⟨w.heap.size, 1, none⟩ = some (.slice A0 xs0.length c0) := by rw [hW]; simp
    have hzq1 : w.heap.size + 1 ≤ w1.heap.size := by rw [hW]; simp
    clear hW
    have hz1 := hE.size
    have HE := hide hE
    clear hE
    have HSZ := hide (szLeft_yes (n := xs0.length) (left := 1048576) (by omega))
    go_wp2_with fail
    refine (szTour_any _ _ _ _ _ _ (by have := HI0.out.le; have := HI0.out.max; omega) (by omega) (by omega)).mono ?_; rw [HSZ.out]; rintro e w2 ⟨rfl, hE⟩
    replace Cb0 := hE.get Cb0; replace Cb1 := hE.get Cb1
    have hz2 := hE.size
    replace HE := hide (HE.out.trans hE)
    clear hE
    clear HSZ
    go_wp2_with fail
    refine (toTour_any s0 _ _ _ xs0 _ (HI0.out.ext HE.out) (by omega)).mono ?_; rintro e w3 ⟨At1, ct1, rfl, ho, hE⟩
    replace Cb0 := hE.get Cb0; replace Cb1 := hE.get Cb1
    have hz3 := hE.size
    replace HE := hide (HE.out.trans hE)
    clear hE
    have HOt1 := hide (InI.mk_ ho); clear ho
    go_wp2_with fail
    refine (sCountFor_any s0 _ _ _ xs0 a1 _ HOt1.out.ints).mono ?_; rintro e w4 ⟨rfl, hE⟩
    replace HOt1 := hide (HOt1.out.ext hE)
    replace Cb0 := hE.get Cb0; replace Cb1 := hE.get Cb1
    have hz4 := hE.size
    replace HE := hide (HE.out.trans hE)
    clear hE
    go_wp2_with fail
    refine (toTour_any s0 _ _ _ xs0 _ (HI0.out.ext HE.out) (by omega)).mono ?_; rintro e w5 ⟨Ax0, cx0, rfl, ho, hE⟩
    replace HOt1 := hide (HOt1.out.ext hE)
    replace Cb0 := hE.get Cb0; replace Cb1 := hE.get Cb1
    have hz5 := hE.size
    replace HE := hide (HE.out.trans hE)
    clear hE
    have HOx0 := hide (InI.mk_ ho); clear ho
    go_wp2_with fail
    obtain ⟨w6, hW⟩ : ∃ W : World, W = w5.alloc (.cells #[.int .i64 s0, .slice Ax0 xs0.length cx0] 33) := ⟨_, rfl⟩
    rw [← hW]
    have hE : Ext w5 w6 := by rw [hW]; exact Ext.one _ _
    have Cx00 : w6.cell? ⟨w5.heap.size, 0, none⟩ = some (.int .i64 s0) := by rw [hW]; simp
    have Cx01 : w6.cell? ⟨w5.heap.size, 1, none⟩ = some (.slice Ax0 xs0.length cx0) := by rw [hW]; simp
    have hzq6 : w5.heap.size + 1 ≤ w6.heap.size := by rw [hW]; simp
    clear hW
    replace HOt1 := hide (HOt1.out.ext hE)
    replace HOx0 := hide (HOx0.out.ext hE)
    replace Cb0 := hE.get Cb0; replace Cb1 := hE.get Cb1
    have hz6 := hE.size
    replace HE := hide (HE.out.trans hE)
    clear hE
    go_wp2_with fail
    refine (iCountFor_any s0 _ _ _ xs0 a1 _ HOx0.out.ints).mono ?_; rintro e w7 ⟨rfl, hE⟩
    replace HOt1 := hide (HOt1.out.ext hE)
    replace HOx0 := hide (HOx0.out.ext hE)
    replace Cb0 := hE.get Cb0; replace Cb1 := hE.get Cb1
    replace Cx00 := hE.get Cx00; replace Cx01 := hE.get Cx01
    have hz7 := hE.size
    replace HE := hide (HE.out.trans hE)
    clear hE
    go_wp2_with fail
    go_region_held3 (fun w' => w'.cell? ⟨w.heap.size, 0, none⟩ = some (.int .i64 s0) ∧ w'.cell? ⟨w.heap.size, 1, none⟩ = some (.slice A0 xs0.length c0) ∧ w'.cell? ⟨w5.heap.size, 0, none⟩ = some (.int .i64 s0) ∧ w'.cell? ⟨w5.heap.size, 1, none⟩ = some (.slice Ax0 xs0.length cx0))
      (first | exact ⟨Cb0, Cb1, Cx00, Cx01⟩ | exact ⟨hEa.get Cb0, hEa.get Cb1, hEa.get Cx00, hEa.get Cx01⟩ | exact ⟨hEb.get (hEa.get Cb0), hEb.get (hEa.get Cb1), hEb.get (hEa.get Cx00), hEb.get (hEa.get Cx01)⟩)
      (first | (go_at_call 44; refine (toTour_any s0 _ _ _ xs0 _ (HI0.out.ext HE.out.drew) (by omega)).mono ?_; rintro e w8 ⟨At, ct, rfl, ho, hEa⟩) | (go_at_call 46; refine (eqTour_any _ _ _ _ (xs0) _ _ _ _ xs0 _ (HOx0.out.ints.ext ((Ext.refl _).drew.trans hEa)) ho.ints).mono ?_; rintro e w9 ⟨rfl, hEb⟩))
    clear ho
    have hE : Ext w7 w8 := (Ext.refl _).drew.trans hEa
    clear hEa
    replace HOt1 := hide (HOt1.out.ext hE)
    replace HOx0 := hide (HOx0.out.ext hE)
    replace Cb0 := hE.get Cb0; replace Cb1 := hE.get Cb1
    replace Cx00 := hE.get Cx00; replace Cx01 := hE.get Cx01
    have hz8 := hE.size
    replace HE := hide (HE.out.trans hE)
    clear hE
    replace HOt1 := hide (HOt1.out.ext hEb)
    replace HOx0 := hide (HOx0.out.ext hEb)
    replace Cb0 := hEb.get Cb0; replace Cb1 := hEb.get Cb1
    replace Cx00 := hEb.get Cx00; replace Cx01 := hEb.get Cx01
    have hz9 := hEb.size
    replace HE := hide (HE.out.trans hEb)
    clear hEb
    go_wp2
    go_ret
    exact ⟨by first | rfl | simp, HE.out⟩
  · go_enter Try.func7, Try.ntmps7
    go_wp2_with fail
    obtain ⟨w1, hW⟩ : ∃ W : World, W = w.alloc (.cells #[.int .i64 s0, .slice A0 xs0.length c0] 51) := ⟨_, rfl⟩
    rw [← hW]
    have hE : Ext w w1 := by rw [hW]; exact Ext.one _ _
    have Cb0 : w1.cell? ⟨w.heap.size, 0, none⟩ = some (.int .i64 s0) := by rw [hW]; simp
    have Cb1 : w1.cell? ⟨w.heap.size, 1, none⟩ = some (.slice A0 xs0.length c0) := by rw [hW]; simp
    have hzq1 : w.heap.size + 1 ≤ w1.heap.size := by rw [hW]; simp
    clear hW
    have hz1 := hE.size
    have HE := hide hE
    clear hE
    have HSZ := hide (szLeft_no (n := xs0.length) (left := 1048576) (by omega))
    go_wp2_with fail
    refine (szTour_any _ _ _ _ _ _ (by have := HI0.out.le; have := HI0.out.max; omega) (by omega) (by omega)).mono ?_; rw [HSZ.out]; rintro e w2 ⟨rfl, hE⟩
    replace Cb0 := hE.get Cb0; replace Cb1 := hE.get Cb1
    have hz2 := hE.size
    replace HE := hide (HE.out.trans hE)
    clear hE
    clear HSZ
    go_wp2
    go_ret
    exact ⟨rfl, HE.out⟩

end Go.Proofs.Ytbaljgdepicigaa
