/-
  The laws on brackets.
-/
import Derived.Laws.ShiftsVar
import Derived.Deep.RegionHeld3
import Derived.Test.YtolmelpdhdhcgaaBase
import Derived.Test.YtolmelpdhdhcgaaMathA
import Derived.Test.YtolmelpdhdhcgaaMathD
import Derived.Test.YtolmelpdhdhcgaaLib
import Derived.Test.YtolmelpdhdhcgaaAid
import Derived.Test.YtolmelpdhdhcgaaGrid
import Derived.Test.YtolmelpdhdhcgaaLibF
import Derived.Test.YtolmelpdhdhcgaaMathB
import Derived.Test.YtolmelpdhdhcgaaMathU
import Derived.Test.YtolmelpdhdhcgaaMathV
import Derived.Test.YtolmelpdhdhcgaaMathW
import Derived.Test.YtolmelpdhdhcgaaSeed
import Derived.Test.YtolmelpdhdhcgaaTour
import Derived.Test.YtolmelpdhdhcgaaTourB
import Derived.Test.YtolmelpdhdhcgaaBrack
import Derived.Test.YtolmelpdhdhcgaaStep
import Derived.Test.YtolmelpdhdhcgaaBrackB
import Derived.Test.YtolmelpdhdhcgaaBrackC
import Derived.Test.YtolmelpdhdhcgaaBrackD
import Derived.Test.YtolmelpdhdhcgaaBrackE
namespace Go.Proofs.Ytolmelpdhdhcgaa
open Go.RowKit
set_option linter.unusedVariables false

-- law BracketOk
theorem law_BracketOk (s0 : Int) (A0 : Option Addr) (n0 c0 : Nat) (xs0 : List Int) (A1 : Option Addr) (n1 c1 : Nat) (xs1 : List Int) (w : World) (hi0 : I64 s0) (h0 : Ints w A0 n0 c0 xs0) (h1 : Ints w A1 n1 c1 xs1) :
    Calls Try.prog 3 #[.agg #[.int .i64 s0, .slice A0 n0 c0], .slice A1 n1 c1] w fun e w' => e = .returned (.bool true) ∧ Ext w w' := by
  have hl0 := h0.len; subst hl0
  have HI0 := hide h0; clear h0
  have hl1 := h1.len; subst hl1
  have HI1 := hide h1; clear h1
  by_cases hs1 : xs1.length ≤ 1048576
  · skip
    by_cases hs0 : (xs0.length : Int) ≤ 1048576
    · skip
      have hb0 : xs0.length ≤ 1048576 := by omega
      go_enter Try.func3, Try.ntmps3
      go_wp2_with fail
      obtain ⟨w1, hW⟩ : ∃ W : World, W = w.alloc (.cells #[.int .i64 s0, .slice A0 xs0.length c0] 24) := ⟨_, rfl⟩
      rw [← hW]
      have hE : Ext w w1 := by rw [hW]; exact Ext.one _ _
      have Cb0 : w1.cell? ⟨w.heap.size, 0, none⟩ = some (.int .i64 s0) := by rw [hW]; simp
      have Cb1 : w1.cell? ⟨w.heap.size, 1, none⟩ = some (.slice A0 xs0.length c0) := by rw [hW]; simp
      have hzq1 : w.heap.size + 1 ≤ w1.heap.size := by rw [hW]; simp
      clear hW
      have hz1 := hE.size
      have HE := hide hE
      clear hE
      have HSZ := hide (szLeft_yes (n := xs0.length) (left := 1048576) (by omega))
      go_wp2_with fail
      refine (szTour_any _ _ _ _ _ _ (by have := HI0.out.le; have := HI0.out.max; omega) (by omega) (by omega)).mono ?_; rw [HSZ.out]; rintro e w2 ⟨rfl, hE⟩
      replace Cb0 := hE.get Cb0; replace Cb1 := hE.get Cb1
      have hz2 := hE.size
      replace HE := hide (HE.out.trans hE)
      clear hE
      clear HSZ
      go_wp2_with fail
      refine (toTour_any s0 _ _ _ xs0 _ (HI0.out.ext HE.out) (by omega)).mono ?_; rintro e w3 ⟨At1, ct1, rfl, ho, hE⟩
      replace Cb0 := hE.get Cb0; replace Cb1 := hE.get Cb1
      have hz3 := hE.size
      replace HE := hide (HE.out.trans hE)
      clear hE
      have HOt1 := hide (InI.mk_ ho); clear ho
      go_wp2_with fail
      refine (toIntS_any _ _ _ xs1 _ (HI1.out.ext HE.out) (by omega)).mono ?_; rintro e w4 ⟨At2, ct2, rfl, ho, hE⟩
      replace HOt1 := hide (HOt1.out.ext hE)
      replace Cb0 := hE.get Cb0; replace Cb1 := hE.get Cb1
      have hz4 := hE.size
      replace HE := hide (HE.out.trans hE)
      clear hE
      have HOt2 := hide (InI.mk_ ho); clear ho
      go_wp2_with fail
      refine (sBracketOk_any s0 _ _ _ xs0 _ _ _ xs1 _ HOt1.out.ints HOt2.out.ints).mono ?_; rintro e w5 ⟨rfl, hE⟩
      replace HOt1 := hide (HOt1.out.ext hE)
      replace HOt2 := hide (HOt2.out.ext hE)
      replace Cb0 := hE.get Cb0; replace Cb1 := hE.get Cb1
      have hz5 := hE.size
      replace HE := hide (HE.out.trans hE)
      clear hE
      go_wp2_with fail
      refine (toTour_any s0 _ _ _ xs0 _ (HI0.out.ext HE.out) (by omega)).mono ?_; rintro e w6 ⟨Ax0, cx0, rfl, ho, hE⟩
      replace HOt1 := hide (HOt1.out.ext hE)
      replace HOt2 := hide (HOt2.out.ext hE)
      replace Cb0 := hE.get Cb0; replace Cb1 := hE.get Cb1
      have hz6 := hE.size
      replace HE := hide (HE.out.trans hE)
      clear hE
      have HOx0 := hide (InI.mk_ ho); clear ho
      go_wp2_with fail
      obtain ⟨w7, hW⟩ : ∃ W : World, W = w6.alloc (.cells #[.int .i64 s0, .slice Ax0 xs0.length cx0] 27) := ⟨_, rfl⟩
      rw [← hW]
      have hE : Ext w6 w7 := by rw [hW]; exact Ext.one _ _
      have Cx00 : w7.cell? ⟨w6.heap.size, 0, none⟩ = some (.int .i64 s0) := by rw [hW]; simp
      have Cx01 : w7.cell? ⟨w6.heap.size, 1, none⟩ = some (.slice Ax0 xs0.length cx0) := by rw [hW]; simp
      have hzq7 : w6.heap.size + 1 ≤ w7.heap.size := by rw [hW]; simp
      clear hW
      replace HOt1 := hide (HOt1.out.ext hE)
      replace HOt2 := hide (HOt2.out.ext hE)
      replace HOx0 := hide (HOx0.out.ext hE)
      replace Cb0 := hE.get Cb0; replace Cb1 := hE.get Cb1
      have hz7 := hE.size
      replace HE := hide (HE.out.trans hE)
      clear hE
      go_wp2_with fail
      refine (toIntS_any _ _ _ xs1 _ (HI1.out.ext HE.out) (by omega)).mono ?_; rintro e w8 ⟨Ax1, cx1, rfl, ho, hE⟩
      replace HOt1 := hide (HOt1.out.ext hE)
      replace HOt2 := hide (HOt2.out.ext hE)
      replace HOx0 := hide (HOx0.out.ext hE)
      replace Cb0 := hE.get Cb0; replace Cb1 := hE.get Cb1
      replace Cx00 := hE.get Cx00; replace Cx01 := hE.get Cx01
      have hz8 := hE.size
      replace HE := hide (HE.out.trans hE)
      clear hE
      have HOx1 := hide (InI.mk_ ho); clear ho
      go_wp2_with fail
      refine (iBracketOk_any s0 _ _ _ xs0 _ _ _ xs1 _ HOx0.out.ints HOx1.out.ints).mono ?_; rintro e w9 ⟨rfl, hE⟩
      replace HOt1 := hide (HOt1.out.ext hE)
      replace HOt2 := hide (HOt2.out.ext hE)
      replace HOx0 := hide (HOx0.out.ext hE)
      replace HOx1 := hide (HOx1.out.ext hE)
      replace Cb0 := hE.get Cb0; replace Cb1 := hE.get Cb1
      replace Cx00 := hE.get Cx00; replace Cx01 := hE.get Cx01
      have hz9 := hE.size
      replace HE := hide (HE.out.trans hE)
      clear hE
      go_wp2_with fail
      go_region_held3 (fun w' => w'.cell? ⟨w.heap.size, 0, none⟩ = some (.int .i64 s0) ∧ w'.cell? ⟨w.heap.size, 1, none⟩ = some (.slice A0 xs0.length c0) ∧ w'.cell? ⟨w6.heap.size, 0, none⟩ = some (.int .i64 s0) ∧ w'.cell? ⟨w6.heap.size, 1, none⟩ = some (.slice Ax0 xs0.length cx0))
        (first | exact ⟨Cb0, Cb1, Cx00, Cx01⟩ | exact ⟨hEa.get Cb0, hEa.get Cb1, hEa.get Cx00, hEa.get Cx01⟩ | exact ⟨hEb.get (hEa.get Cb0), hEb.get (hEa.get Cb1), hEb.get (hEa.get Cx00), hEb.get (hEa.get Cx01)⟩)
        (first | (go_at_call 12; refine (toTour_any s0 _ _ _ xs0 _ (HI0.out.ext HE.out.drew) (by omega)).mono ?_; rintro e w10 ⟨At, ct, rfl, ho, hEa⟩) | (go_at_call 15; refine (eqTour_any _ _ _ _ (xs0) _ _ _ _ xs0 _ (HOx0.out.ints.ext ((Ext.refl _).drew.trans hEa)) ho.ints).mono ?_; rintro e w11 ⟨rfl, hEb⟩))
      clear ho
      have hE : Ext w9 w10 := (Ext.refl _).drew.trans hEa
      clear hEa
      replace HOt1 := hide (HOt1.out.ext hE)
      replace HOt2 := hide (HOt2.out.ext hE)
      replace HOx0 := hide (HOx0.out.ext hE)
      replace HOx1 := hide (HOx1.out.ext hE)
      replace Cb0 := hE.get Cb0; replace Cb1 := hE.get Cb1
      replace Cx00 := hE.get Cx00; replace Cx01 := hE.get Cx01
      have hz10 := hE.size
      replace HE := hide (HE.out.trans hE)
      clear hE
      replace HOt1 := hide (HOt1.out.ext hEb)
      replace HOt2 := hide (HOt2.out.ext hEb)
      replace HOx0 := hide (HOx0.out.ext hEb)
      replace HOx1 := hide (HOx1.out.ext hEb)
      replace Cb0 := hEb.get Cb0; replace Cb1 := hEb.get Cb1
      replace Cx00 := hEb.get Cx00; replace Cx01 := hEb.get Cx01
      have hz11 := hEb.size
      replace HE := hide (HE.out.trans hEb)
      clear hEb
      go_wp2_with fail
      refine (toIntS_any _ _ _ xs1 _ (HI1.out.ext HE.out) (by omega)).mono ?_; rintro e w12 ⟨At5, ct5, rfl, ho, hE⟩
      replace HOt1 := hide (HOt1.out.ext hE)
      replace HOt2 := hide (HOt2.out.ext hE)
      replace HOx0 := hide (HOx0.out.ext hE)
      replace HOx1 := hide (HOx1.out.ext hE)
      replace Cb0 := hE.get Cb0; replace Cb1 := hE.get Cb1
      replace Cx00 := hE.get Cx00; replace Cx01 := hE.get Cx01
      have hz12 := hE.size
      replace HE := hide (HE.out.trans hE)
      clear hE
      have HOt5 := hide (InI.mk_ ho); clear ho
      go_wp2_with fail
      refine (eqIntS_any _ _ _ (xs1) _ _ _ (xs1) _ HOx1.out.ints HOt5.out.ints).mono ?_; rintro e w13 ⟨rfl, hE⟩
      replace HOt1 := hide (HOt1.out.ext hE)
      replace HOt2 := hide (HOt2.out.ext hE)
      replace HOx0 := hide (HOx0.out.ext hE)
      replace HOx1 := hide (HOx1.out.ext hE)
      replace HOt5 := hide (HOt5.out.ext hE)
      replace Cb0 := hE.get Cb0; replace Cb1 := hE.get Cb1
      replace Cx00 := hE.get Cx00; replace Cx01 := hE.get Cx01
      have hz13 := hE.size
      replace HE := hide (HE.out.trans hE)
      clear hE
      go_wp2
      go_ret
      exact ⟨by first | rfl | simp, HE.out⟩
    · go_enter Try.func3, Try.ntmps3
      go_wp2_with fail
      obtain ⟨w1, hW⟩ : ∃ W : World, W = w.alloc (.cells #[.int .i64 s0, .slice A0 xs0.length c0] 24) := ⟨_, rfl⟩
      rw [← hW]
      have hE : Ext w w1 := by rw [hW]; exact Ext.one _ _
      have Cb0 : w1.cell? ⟨w.heap.size, 0, none⟩ = some (.int .i64 s0) := by rw [hW]; simp
      have Cb1 : w1.cell? ⟨w.heap.size, 1, none⟩ = some (.slice A0 xs0.length c0) := by rw [hW]; simp
      have hzq1 : w.heap.size + 1 ≤ w1.heap.size := by rw [hW]; simp
      clear hW
      have hz1 := hE.size
      have HE := hide hE
      clear hE
      have HSZ := hide (szLeft_no (n := xs0.length) (left := 1048576) (by omega))
      go_wp2_with fail
      refine (szTour_any _ _ _ _ _ _ (by have := HI0.out.le; have := HI0.out.max; omega) (by omega) (by omega)).mono ?_; rw [HSZ.out]; rintro e w2 ⟨rfl, hE⟩
      replace Cb0 := hE.get Cb0; replace Cb1 := hE.get Cb1
      have hz2 := hE.size
      replace HE := hide (HE.out.trans hE)
      clear hE
      clear HSZ
      go_wp2
      go_ret
      exact ⟨rfl, HE.out⟩
  · go_enter Try.func3, Try.ntmps3
    go_wp2
    go_ret
    exact ⟨rfl, Ext.one _ _⟩
-- law NextRound
theorem law_NextRound (s0 : Int) (A0 : Option Addr) (n0 c0 : Nat) (xs0 : List Int) (A1 : Option Addr) (n1 c1 : Nat) (xs1 : List Int) (w : World) (hi0 : I64 s0) (h0 : Ints w A0 n0 c0 xs0) (h1 : Ints w A1 n1 c1 xs1) :
    Calls Try.prog 4 #[.agg #[.int .i64 s0, .slice A0 n0 c0], .slice A1 n1 c1] w fun e w' => e = .returned (.bool true) ∧ Ext w w' := by
  have hl0 := h0.len; subst hl0
  have HI0 := hide h0; clear h0
  have hl1 := h1.len; subst hl1
  have HI1 := hide h1; clear h1
  by_cases hs1 : xs1.length ≤ 1048576
  · skip
    by_cases hs0 : (xs0.length : Int) ≤ 1048576
    · skip
      have hb0 : xs0.length ≤ 1048576 := by omega
      have hln := nextRound_len s0 xs0 xs1
      go_enter Try.func4, Try.ntmps4
      go_wp2_with fail
      obtain ⟨w1, hW⟩ : ∃ W : World, W = w.alloc (.cells #[.int .i64 s0, .slice A0 xs0.length c0] 24) := ⟨_, rfl⟩
      rw [← hW]
      have hE : Ext w w1 := by rw [hW]; exact Ext.one _ _
      have Cb0 : w1.cell? ⟨w.heap.size, 0, none⟩ = some (.int .i64 s0) := by rw [hW]; simp
      have Cb1 : w1.cell? ⟨w.heap.size, 1, none⟩ = some (.slice A0 xs0.length c0) := by rw [hW]; simp
      have hzq1 : w.heap.size + 1 ≤ w1.heap.size := by rw [hW]; simp
      clear hW
      have hz1 := hE.size
      have HE := hide hE
      clear hE
      have HSZ := hide (szLeft_yes (n := xs0.length) (left := 1048576) (by omega))
      go_wp2_with fail
      refine (szTour_any _ _ _ _ _ _ (by have := HI0.out.le; have := HI0.out.max; omega) (by omega) (by omega)).mono ?_; rw [HSZ.out]; rintro e w2 ⟨rfl, hE⟩
      replace Cb0 := hE.get Cb0; replace Cb1 := hE.get Cb1
      have hz2 := hE.size
      replace HE := hide (HE.out.trans hE)
      clear hE
      clear HSZ
      go_wp2_with fail
      refine (toTour_any s0 _ _ _ xs0 _ (HI0.out.ext HE.out) (by omega)).mono ?_; rintro e w3 ⟨At1, ct1, rfl, ho, hE⟩
      replace Cb0 := hE.get Cb0; replace Cb1 := hE.get Cb1
      have hz3 := hE.size
      replace HE := hide (HE.out.trans hE)
      clear hE
      have HOt1 := hide (InI.mk_ ho); clear ho
      go_wp2_with fail
      refine (toIntS_any _ _ _ xs1 _ (HI1.out.ext HE.out) (by omega)).mono ?_; rintro e w4 ⟨At2, ct2, rfl, ho, hE⟩
      replace HOt1 := hide (HOt1.out.ext hE)
      replace Cb0 := hE.get Cb0; replace Cb1 := hE.get Cb1
      have hz4 := hE.size
      replace HE := hide (HE.out.trans hE)
      clear hE
      have HOt2 := hide (InI.mk_ ho); clear ho
      go_wp2_with fail
      refine (sNextRound_any s0 _ _ _ xs0 _ _ _ xs1 _ HOt1.out.ints HOt2.out.ints).mono ?_; rintro e w5 ⟨Aw0, cw0, rfl, ho0, hE⟩
      replace HOt1 := hide (HOt1.out.ext hE)
      replace HOt2 := hide (HOt2.out.ext hE)
      replace Cb0 := hE.get Cb0; replace Cb1 := hE.get Cb1
      have hz5 := hE.size
      replace HE := hide (HE.out.trans hE)
      clear hE
      have HOw0 := hide (InI.mk_ ho0); clear ho0
      go_wp2_with fail
      refine (toTour_any s0 _ _ _ xs0 _ (HI0.out.ext HE.out) (by omega)).mono ?_; rintro e w6 ⟨Ax0, cx0, rfl, ho, hE⟩
      replace HOt1 := hide (HOt1.out.ext hE)
      replace HOt2 := hide (HOt2.out.ext hE)
      replace HOw0 := hide (HOw0.out.ext hE)
      replace Cb0 := hE.get Cb0; replace Cb1 := hE.get Cb1
      have hz6 := hE.size
      replace HE := hide (HE.out.trans hE)
      clear hE
      have HOx0 := hide (InI.mk_ ho); clear ho
      go_wp2_with fail
      obtain ⟨w7, hW⟩ : ∃ W : World, W = w6.alloc (.cells #[.int .i64 s0, .slice Ax0 xs0.length cx0] 27) := ⟨_, rfl⟩
      rw [← hW]
      have hE : Ext w6 w7 := by rw [hW]; exact Ext.one _ _
      have Cx00 : w7.cell? ⟨w6.heap.size, 0, none⟩ = some (.int .i64 s0) := by rw [hW]; simp
      have Cx01 : w7.cell? ⟨w6.heap.size, 1, none⟩ = some (.slice Ax0 xs0.length cx0) := by rw [hW]; simp
      have hzq7 : w6.heap.size + 1 ≤ w7.heap.size := by rw [hW]; simp
      clear hW
      replace HOt1 := hide (HOt1.out.ext hE)
      replace HOt2 := hide (HOt2.out.ext hE)
      replace HOw0 := hide (HOw0.out.ext hE)
      replace HOx0 := hide (HOx0.out.ext hE)
      replace Cb0 := hE.get Cb0; replace Cb1 := hE.get Cb1
      have hz7 := hE.size
      replace HE := hide (HE.out.trans hE)
      clear hE
      go_wp2_with fail
      refine (toIntS_any _ _ _ xs1 _ (HI1.out.ext HE.out) (by omega)).mono ?_; rintro e w8 ⟨Ax1, cx1, rfl, ho, hE⟩
      replace HOt1 := hide (HOt1.out.ext hE)
      replace HOt2 := hide (HOt2.out.ext hE)
      replace HOw0 := hide (HOw0.out.ext hE)
      replace HOx0 := hide (HOx0.out.ext hE)
      replace Cb0 := hE.get Cb0; replace Cb1 := hE.get Cb1
      replace Cx00 := hE.get Cx00; replace Cx01 := hE.get Cx01
      have hz8 := hE.size
      replace HE := hide (HE.out.trans hE)
      clear hE
      have HOx1 := hide (InI.mk_ ho); clear ho
      go_wp2_with fail
      refine (iNextRound_any s0 _ _ _ xs0 _ _ _ xs1 _ HOx0.out.ints HOx1.out.ints).mono ?_; rintro e w9 ⟨Ag0, cg0, rfl, ho0, hE⟩
      replace HOt1 := hide (HOt1.out.ext hE)
      replace HOt2 := hide (HOt2.out.ext hE)
      replace HOw0 := hide (HOw0.out.ext hE)
      replace HOx0 := hide (HOx0.out.ext hE)
      replace HOx1 := hide (HOx1.out.ext hE)
      replace Cb0 := hE.get Cb0; replace Cb1 := hE.get Cb1
      replace Cx00 := hE.get Cx00; replace Cx01 := hE.get Cx01
      have hz9 := hE.size
      replace HE := hide (HE.out.trans hE)
      clear hE
      have HOg0 := hide (InI.mk_ ho0); clear ho0
      go_wp2_with fail
      refine (eqIntS_any _ _ _ (nextRound s0 xs0 xs1) _ _ _ (nextRound s0 xs0 xs1) _ HOg0.out.ints HOw0.out.ints).mono ?_; rintro e w10 ⟨rfl, hE⟩
      replace HOt1 := hide (HOt1.out.ext hE)
      replace HOt2 := hide (HOt2.out.ext hE)
      replace HOw0 := hide (HOw0.out.ext hE)
      replace HOx0 := hide (HOx0.out.ext hE)
      replace HOx1 := hide (HOx1.out.ext hE)
      replace HOg0 := hide (HOg0.out.ext hE)
      replace Cb0 := hE.get Cb0; replace Cb1 := hE.get Cb1
      replace Cx00 := hE.get Cx00; replace Cx01 := hE.get Cx01
      have hz10 := hE.size
      replace HE := hide (HE.out.trans hE)
      clear hE
      go_wp2_with fail
      go_region_held3 (fun w' => w'.cell? ⟨w.heap.size, 0, none⟩ = some (.int .i64 s0) ∧ w'.cell? ⟨w.heap.size, 1, none⟩ = some (.slice A0 xs0.length c0) ∧ w'.cell? ⟨w6.heap.size, 0, none⟩ = some (.int .i64 s0) ∧ w'.cell? ⟨w6.heap.size, 1, none⟩ = some (.slice Ax0 xs0.length cx0))
        (first | exact ⟨Cb0, Cb1, Cx00, Cx01⟩ | exact ⟨hEa.get Cb0, hEa.get Cb1, hEa.get Cx00, hEa.get Cx01⟩ | exact ⟨hEb.get (hEa.get Cb0), hEb.get (hEa.get Cb1), hEb.get (hEa.get Cx00), hEb.get (hEa.get Cx01)⟩)
        (first | (go_at_call 12; refine (toTour_any s0 _ _ _ xs0 _ (HI0.out.ext HE.out.drew) (by omega)).mono ?_; rintro e w11 ⟨At, ct, rfl, ho, hEa⟩) | (go_at_call 15; refine (eqTour_any _ _ _ _ (xs0) _ _ _ _ xs0 _ (HOx0.out.ints.ext ((Ext.refl _).drew.trans hEa)) ho.ints).mono ?_; rintro e w12 ⟨rfl, hEb⟩))
      clear ho
      have hE : Ext w10 w11 := (Ext.refl _).drew.trans hEa
      clear hEa
      replace HOt1 := hide (HOt1.out.ext hE)
      replace HOt2 := hide (HOt2.out.ext hE)
      replace HOw0 := hide (HOw0.out.ext hE)
      replace HOx0 := hide (HOx0.out.ext hE)
      replace HOx1 := hide (HOx1.out.ext hE)
      replace HOg0 := hide (HOg0.out.ext hE)
      replace Cb0 := hE.get Cb0; replace Cb1 := hE.get Cb1
      replace Cx00 := hE.get Cx00; replace Cx01 := hE.get Cx01
      have hz11 := hE.size
      replace HE := hide (HE.out.trans hE)
      clear hE
      replace HOt1 := hide (HOt1.out.ext hEb)
      replace HOt2 := hide (HOt2.out.ext hEb)
      replace HOw0 := hide (HOw0.out.ext hEb)
      replace HOx0 := hide (HOx0.out.ext hEb)
      replace HOx1 := hide (HOx1.out.ext hEb)
      replace HOg0 := hide (HOg0.out.ext hEb)
      replace Cb0 := hEb.get Cb0; replace Cb1 := hEb.get Cb1
      replace Cx00 := hEb.get Cx00; replace Cx01 := hEb.get Cx01
      have hz12 := hEb.size
      replace HE := hide (HE.out.trans hEb)
      clear hEb
      go_wp2_with fail
      refine (toIntS_any _ _ _ xs1 _ (HI1.out.ext HE.out) (by omega)).mono ?_; rintro e w13 ⟨At5, ct5, rfl, ho, hE⟩
      replace HOt1 := hide (HOt1.out.ext hE)
      replace HOt2 := hide (HOt2.out.ext hE)
      replace HOw0 := hide (HOw0.out.ext hE)
      replace HOx0 := hide (HOx0.out.ext hE)
      replace HOx1 := hide (HOx1.out.ext hE)
      replace HOg0 := hide (HOg0.out.ext hE)
      replace Cb0 := hE.get Cb0; replace Cb1 := hE.get Cb1
      replace Cx00 := hE.get Cx00; replace Cx01 := hE.get Cx01
      have hz13 := hE.size
      replace HE := hide (HE.out.trans hE)
      clear hE
      have HOt5 := hide (InI.mk_ ho); clear ho
      go_wp2_with fail
      refine (eqIntS_any _ _ _ (xs1) _ _ _ (xs1) _ HOx1.out.ints HOt5.out.ints).mono ?_; rintro e w14 ⟨rfl, hE⟩
      replace HOt1 := hide (HOt1.out.ext hE)
      replace HOt2 := hide (HOt2.out.ext hE)
      replace HOw0 := hide (HOw0.out.ext hE)
      replace HOx0 := hide (HOx0.out.ext hE)
      replace HOx1 := hide (HOx1.out.ext hE)
      replace HOg0 := hide (HOg0.out.ext hE)
      replace HOt5 := hide (HOt5.out.ext hE)
      replace Cb0 := hE.get Cb0; replace Cb1 := hE.get Cb1
      replace Cx00 := hE.get Cx00; replace Cx01 := hE.get Cx01
      have hz14 := hE.size
      replace HE := hide (HE.out.trans hE)
      clear hE
      go_wp2_with fail
      refine (markTour_in _ _ _ _ (xs0) _ _ HOx0.out (by omega) (by omega)).mono ?_; rintro e w15 ⟨rfl, ho, hg⟩
      have hz15 := hg.size
      replace HOt1 := hide (HOt1.out.only hg (by omega))
      replace HOt2 := hide (HOt2.out.only hg (by omega))
      replace HOw0 := hide (HOw0.out.only hg (by omega))
      replace HOx1 := hide (HOx1.out.only hg (by omega))
      replace HOg0 := hide (HOg0.out.only hg (by omega))
      replace HOt5 := hide (HOt5.out.only hg (by omega))
      replace HE := hide (HE.out.only hg (by omega))
      replace Cb0 := hg.get Cb0 (by omega); replace Cb1 := hg.get Cb1 (by omega)
      replace Cx00 := hg.get Cx00 (by omega); replace Cx01 := hg.get Cx01 (by omega)
      replace HOx0 := hide ho; clear ho hg
      go_wp2_with fail
      refine (markIntS_in _ _ _ (xs1) _ _ HOx1.out (by omega) (by omega)).mono ?_; rintro e w16 ⟨rfl, ho, hg⟩
      have hz16 := hg.size
      replace HOt1 := hide (HOt1.out.only hg (by omega))
      replace HOt2 := hide (HOt2.out.only hg (by omega))
      replace HOw0 := hide (HOw0.out.only hg (by omega))
      replace HOx0 := hide (HOx0.out.only hg (by omega))
      replace HOg0 := hide (HOg0.out.only hg (by omega))
      replace HOt5 := hide (HOt5.out.only hg (by omega))
      replace HE := hide (HE.out.only hg (by omega))
      replace Cb0 := hg.get Cb0 (by omega); replace Cb1 := hg.get Cb1 (by omega)
      replace Cx00 := hg.get Cx00 (by omega); replace Cx01 := hg.get Cx01 (by omega)
      replace HOx1 := hide ho; clear ho hg
      go_wp2_with fail
      refine (eqIntS_any _ _ _ (nextRound s0 xs0 xs1) _ _ _ (nextRound s0 xs0 xs1) _ HOg0.out.ints HOw0.out.ints).mono ?_; rintro e w17 ⟨rfl, hE⟩
      replace HOt1 := hide (HOt1.out.ext hE)
      replace HOt2 := hide (HOt2.out.ext hE)
      replace HOw0 := hide (HOw0.out.ext hE)
      replace HOx0 := hide (HOx0.out.ext hE)
      replace HOx1 := hide (HOx1.out.ext hE)
      replace HOg0 := hide (HOg0.out.ext hE)
      replace HOt5 := hide (HOt5.out.ext hE)
      replace Cb0 := hE.get Cb0; replace Cb1 := hE.get Cb1
      replace Cx00 := hE.get Cx00; replace Cx01 := hE.get Cx01
      have hz17 := hE.size
      replace HE := hide (HE.out.trans hE)
      clear hE
      go_wp2_with fail
      refine (markIntS_in _ _ _ (nextRound s0 xs0 xs1) _ _ HOg0.out (by omega) (by omega)).mono ?_; rintro e w18 ⟨rfl, ho, hg⟩
      have hz18 := hg.size
      replace HOt1 := hide (HOt1.out.only hg (by omega))
      replace HOt2 := hide (HOt2.out.only hg (by omega))
      replace HOw0 := hide (HOw0.out.only hg (by omega))
      replace HOx0 := hide (HOx0.out.only hg (by omega))
      replace HOx1 := hide (HOx1.out.only hg (by omega))
      replace HOt5 := hide (HOt5.out.only hg (by omega))
      replace HE := hide (HE.out.only hg (by omega))
      replace Cb0 := hg.get Cb0 (by omega); replace Cb1 := hg.get Cb1 (by omega)
      replace Cx00 := hg.get Cx00 (by omega); replace Cx01 := hg.get Cx01 (by omega)
      replace HOg0 := hide ho; clear ho hg
      go_wp2_with fail
      refine (heldIntS_any _ _ _ _ _ HOg0.out.ints (by omega) (by omega)).mono ?_; rintro e w' ⟨rfl, rfl⟩
      go_wp2_with fail
      refine (toTour_any s0 _ _ _ xs0 _ (HI0.out.ext HE.out) (by omega)).mono ?_; rintro e w19 ⟨At6, ct6, rfl, ho, hE⟩
      replace HOt1 := hide (HOt1.out.ext hE)
      replace HOt2 := hide (HOt2.out.ext hE)
      replace HOw0 := hide (HOw0.out.ext hE)
      replace HOx0 := hide (HOx0.out.ext hE)
      replace HOx1 := hide (HOx1.out.ext hE)
      replace HOg0 := hide (HOg0.out.ext hE)
      replace HOt5 := hide (HOt5.out.ext hE)
      replace Cb0 := hE.get Cb0; replace Cb1 := hE.get Cb1
      replace Cx00 := hE.get Cx00; replace Cx01 := hE.get Cx01
      have hz19 := hE.size
      replace HE := hide (HE.out.trans hE)
      clear hE
      have HOt6 := hide (InI.mk_ ho); clear ho
      go_wp2_with fail
      refine (toIntS_any _ _ _ xs1 _ (HI1.out.ext HE.out) (by omega)).mono ?_; rintro e w20 ⟨At7, ct7, rfl, ho, hE⟩
      replace HOt1 := hide (HOt1.out.ext hE)
      replace HOt2 := hide (HOt2.out.ext hE)
      replace HOw0 := hide (HOw0.out.ext hE)
      replace HOx0 := hide (HOx0.out.ext hE)
      replace HOx1 := hide (HOx1.out.ext hE)
      replace HOg0 := hide (HOg0.out.ext hE)
      replace HOt5 := hide (HOt5.out.ext hE)
      replace HOt6 := hide (HOt6.out.ext hE)
      replace Cb0 := hE.get Cb0; replace Cb1 := hE.get Cb1
      replace Cx00 := hE.get Cx00; replace Cx01 := hE.get Cx01
      have hz20 := hE.size
      replace HE := hide (HE.out.trans hE)
      clear hE
      have HOt7 := hide (InI.mk_ ho); clear ho
      go_wp2_with fail
      refine (iNextRound_any s0 _ _ _ xs0 _ _ _ xs1 _ HOt6.out.ints HOt7.out.ints).mono ?_; rintro e w21 ⟨Ah0, ch0, rfl, ho0, hE⟩
      replace HOt1 := hide (HOt1.out.ext hE)
      replace HOt2 := hide (HOt2.out.ext hE)
      replace HOw0 := hide (HOw0.out.ext hE)
      replace HOx0 := hide (HOx0.out.ext hE)
      replace HOx1 := hide (HOx1.out.ext hE)
      replace HOg0 := hide (HOg0.out.ext hE)
      replace HOt5 := hide (HOt5.out.ext hE)
      replace HOt6 := hide (HOt6.out.ext hE)
      replace HOt7 := hide (HOt7.out.ext hE)
      replace Cb0 := hE.get Cb0; replace Cb1 := hE.get Cb1
      replace Cx00 := hE.get Cx00; replace Cx01 := hE.get Cx01
      have hz21 := hE.size
      replace HE := hide (HE.out.trans hE)
      clear hE
      have HOh0 := hide (InI.mk_ ho0); clear ho0
      go_wp2_with fail
      refine (eqIntS_any _ _ _ (nextRound s0 xs0 xs1) _ _ _ (nextRound s0 xs0 xs1) _ HOh0.out.ints HOw0.out.ints).mono ?_; rintro e w22 ⟨rfl, hE⟩
      replace HOt1 := hide (HOt1.out.ext hE)
      replace HOt2 := hide (HOt2.out.ext hE)
      replace HOw0 := hide (HOw0.out.ext hE)
      replace HOx0 := hide (HOx0.out.ext hE)
      replace HOx1 := hide (HOx1.out.ext hE)
      replace HOg0 := hide (HOg0.out.ext hE)
      replace HOt5 := hide (HOt5.out.ext hE)
      replace HOt6 := hide (HOt6.out.ext hE)
      replace HOt7 := hide (HOt7.out.ext hE)
      replace HOh0 := hide (HOh0.out.ext hE)
      replace Cb0 := hE.get Cb0; replace Cb1 := hE.get Cb1
      replace Cx00 := hE.get Cx00; replace Cx01 := hE.get Cx01
      have hz22 := hE.size
      replace HE := hide (HE.out.trans hE)
      clear hE
      go_wp2_with fail
      refine (heldIntS_any _ _ _ _ _ HOg0.out.ints (by omega) (by omega)).mono ?_; rintro e w' ⟨rfl, rfl⟩
      go_wp2
      go_ret
      exact ⟨by first | rfl | simp, HE.out⟩
    · go_enter Try.func4, Try.ntmps4
      go_wp2_with fail
      obtain ⟨w1, hW⟩ : ∃ W : World, W = w.alloc (.cells #[.int .i64 s0, .slice A0 xs0.length c0] 24) := ⟨_, rfl⟩
      rw [← hW]
      have hE : Ext w w1 := by rw [hW]; exact Ext.one _ _
      have Cb0 : w1.cell? ⟨w.heap.size, 0, none⟩ = some (.int .i64 s0) := by rw [hW]; simp
      have Cb1 : w1.cell? ⟨w.heap.size, 1, none⟩ = some (.slice A0 xs0.length c0) := by rw [hW]; simp
      have hzq1 : w.heap.size + 1 ≤ w1.heap.size := by rw [hW]; simp
      clear hW
      have hz1 := hE.size
      have HE := hide hE
      clear hE
      have HSZ := hide (szLeft_no (n := xs0.length) (left := 1048576) (by omega))
      go_wp2_with fail
      refine (szTour_any _ _ _ _ _ _ (by have := HI0.out.le; have := HI0.out.max; omega) (by omega) (by omega)).mono ?_; rw [HSZ.out]; rintro e w2 ⟨rfl, hE⟩
      replace Cb0 := hE.get Cb0; replace Cb1 := hE.get Cb1
      have hz2 := hE.size
      replace HE := hide (HE.out.trans hE)
      clear hE
      clear HSZ
      go_wp2
      go_ret
      exact ⟨rfl, HE.out⟩
  · go_enter Try.func4, Try.ntmps4
    go_wp2
    go_ret
    exact ⟨rfl, Ext.one _ _⟩
-- law WinnerOf
theorem law_WinnerOf (s0 : Int) (A0 : Option Addr) (n0 c0 : Nat) (xs0 : List Int) (A1 : Option Addr) (n1 c1 : Nat) (xs1 : List Int) (w : World) (hi0 : I64 s0) (h0 : Ints w A0 n0 c0 xs0) (h1 : Ints w A1 n1 c1 xs1) :
    Calls Try.prog 5 #[.agg #[.int .i64 s0, .slice A0 n0 c0], .slice A1 n1 c1] w fun e w' => e = .returned (.bool true) ∧ Ext w w' := by
  have hl0 := h0.len; subst hl0
  have HI0 := hide h0; clear h0
  have hl1 := h1.len; subst hl1
  have HI1 := hide h1; clear h1
  by_cases hs1 : xs1.length ≤ 1048576
  · skip
    by_cases hs0 : (xs0.length : Int) ≤ 1048576
    · skip
      have hb0 : xs0.length ≤ 1048576 := by omega
      go_enter Try.func5, Try.ntmps5
      go_wp2_with fail
      obtain ⟨w1, hW⟩ : ∃ W : World, W = w.alloc (.cells #[.int .i64 s0, .slice A0 xs0.length c0] 24) := ⟨_, rfl⟩
      rw [← hW]
      have hE : Ext w w1 := by rw [hW]; exact Ext.one _ _
      have Cb0 : w1.cell? ⟨w.heap.size, 0, none⟩ = some (.int .i64 s0) := by rw [hW]; simp
      have Cb1 : w1.cell? ⟨w.heap.size, 1, none⟩ = some (.slice A0 xs0.length c0) := by rw [hW]; simp
      have hzq1 : w.heap.size + 1 ≤ w1.heap.size := by rw [hW]; simp
      clear hW
      have hz1 := hE.size
      have HE := hide hE
      clear hE
      have HSZ := hide (szLeft_yes (n := xs0.length) (left := 1048576) (by omega))
      go_wp2_with fail
      refine (szTour_any _ _ _ _ _ _ (by have := HI0.out.le; have := HI0.out.max; omega) (by omega) (by omega)).mono ?_; rw [HSZ.out]; rintro e w2 ⟨rfl, hE⟩
      replace Cb0 := hE.get Cb0; replace Cb1 := hE.get Cb1
      have hz2 := hE.size
      replace HE := hide (HE.out.trans hE)
      clear hE
      clear HSZ
      go_wp2_with fail
      refine (toTour_any s0 _ _ _ xs0 _ (HI0.out.ext HE.out) (by omega)).mono ?_; rintro e w3 ⟨At1, ct1, rfl, ho, hE⟩
      replace Cb0 := hE.get Cb0; replace Cb1 := hE.get Cb1
      have hz3 := hE.size
      replace HE := hide (HE.out.trans hE)
      clear hE
      have HOt1 := hide (InI.mk_ ho); clear ho
      go_wp2_with fail
      refine (toIntS_any _ _ _ xs1 _ (HI1.out.ext HE.out) (by omega)).mono ?_; rintro e w4 ⟨At2, ct2, rfl, ho, hE⟩
      replace HOt1 := hide (HOt1.out.ext hE)
      replace Cb0 := hE.get Cb0; replace Cb1 := hE.get Cb1
      have hz4 := hE.size
      replace HE := hide (HE.out.trans hE)
      clear hE
      have HOt2 := hide (InI.mk_ ho); clear ho
      go_wp2_with fail
      refine (sWinnerOf_any s0 _ _ _ xs0 _ _ _ xs1 _ HOt1.out.ints HOt2.out.ints).mono ?_; rintro e w5 ⟨rfl, hE⟩
      replace HOt1 := hide (HOt1.out.ext hE)
      replace HOt2 := hide (HOt2.out.ext hE)
      replace Cb0 := hE.get Cb0; replace Cb1 := hE.get Cb1
      have hz5 := hE.size
      replace HE := hide (HE.out.trans hE)
      clear hE
      go_wp2_with fail
      refine (toTour_any s0 _ _ _ xs0 _ (HI0.out.ext HE.out) (by omega)).mono ?_; rintro e w6 ⟨Ax0, cx0, rfl, ho, hE⟩
      replace HOt1 := hide (HOt1.out.ext hE)
      replace HOt2 := hide (HOt2.out.ext hE)
      replace Cb0 := hE.get Cb0; replace Cb1 := hE.get Cb1
      have hz6 := hE.size
      replace HE := hide (HE.out.trans hE)
      clear hE
      have HOx0 := hide (InI.mk_ ho); clear ho
      go_wp2_with fail
      obtain ⟨w7, hW⟩ : ∃ W : World, W = w6.alloc (.cells #[.int .i64 s0, .slice Ax0 xs0.length cx0] 27) := ⟨_, rfl⟩
      rw [← hW]
      have hE : Ext w6 w7 := by rw [hW]; exact Ext.one _ _
      have Cx00 : w7.cell? ⟨w6.heap.size, 0, none⟩ = some (.int .i64 s0) := by rw [hW]; simp
      have Cx01 : w7.cell? ⟨w6.heap.size, 1, none⟩ = some (.slice Ax0 xs0.length cx0) := by rw [hW]; simp
      have hzq7 : w6.heap.size + 1 ≤ w7.heap.size := by rw [hW]; simp
      clear hW
      replace HOt1 := hide (HOt1.out.ext hE)
      replace HOt2 := hide (HOt2.out.ext hE)
      replace HOx0 := hide (HOx0.out.ext hE)
      replace Cb0 := hE.get Cb0; replace Cb1 := hE.get Cb1
      have hz7 := hE.size
      replace HE := hide (HE.out.trans hE)
      clear hE
      go_wp2_with fail
      refine (toIntS_any _ _ _ xs1 _ (HI1.out.ext HE.out) (by omega)).mono ?_; rintro e w8 ⟨Ax1, cx1, rfl, ho, hE⟩
      replace HOt1 := hide (HOt1.out.ext hE)
      replace HOt2 := hide (HOt2.out.ext hE)
      replace HOx0 := hide (HOx0.out.ext hE)
      replace Cb0 := hE.get Cb0; replace Cb1 := hE.get Cb1
      replace Cx00 := hE.get Cx00; replace Cx01 := hE.get Cx01
      have hz8 := hE.size
      replace HE := hide (HE.out.trans hE)
      clear hE
      have HOx1 := hide (InI.mk_ ho); clear ho
      go_wp2_with fail
      refine (iWinnerOf_any s0 _ _ _ xs0 _ _ _ xs1 _ HOx0.out.ints HOx1.out.ints).mono ?_; rintro e w9 ⟨rfl, hE⟩
      replace HOt1 := hide (HOt1.out.ext hE)
      replace HOt2 := hide (HOt2.out.ext hE)
      replace HOx0 := hide (HOx0.out.ext hE)
      replace HOx1 := hide (HOx1.out.ext hE)
      replace Cb0 := hE.get Cb0; replace Cb1 := hE.get Cb1
      replace Cx00 := hE.get Cx00; replace Cx01 := hE.get Cx01
      have hz9 := hE.size
      replace HE := hide (HE.out.trans hE)
      clear hE
      go_wp2_with fail
      go_region_held3 (fun w' => w'.cell? ⟨w.heap.size, 0, none⟩ = some (.int .i64 s0) ∧ w'.cell? ⟨w.heap.size, 1, none⟩ = some (.slice A0 xs0.length c0) ∧ w'.cell? ⟨w6.heap.size, 0, none⟩ = some (.int .i64 s0) ∧ w'.cell? ⟨w6.heap.size, 1, none⟩ = some (.slice Ax0 xs0.length cx0))
        (first | exact ⟨Cb0, Cb1, Cx00, Cx01⟩ | exact ⟨hEa.get Cb0, hEa.get Cb1, hEa.get Cx00, hEa.get Cx01⟩ | exact ⟨hEb.get (hEa.get Cb0), hEb.get (hEa.get Cb1), hEb.get (hEa.get Cx00), hEb.get (hEa.get Cx01)⟩)
        (first | (go_at_call 12; refine (toTour_any s0 _ _ _ xs0 _ (HI0.out.ext HE.out.drew) (by omega)).mono ?_; rintro e w10 ⟨At, ct, rfl, ho, hEa⟩) | (go_at_call 15; refine (eqTour_any _ _ _ _ (xs0) _ _ _ _ xs0 _ (HOx0.out.ints.ext ((Ext.refl _).drew.trans hEa)) ho.ints).mono ?_; rintro e w11 ⟨rfl, hEb⟩))
      clear ho
      have hE : Ext w9 w10 := (Ext.refl _).drew.trans hEa
      clear hEa
      replace HOt1 := hide (HOt1.out.ext hE)
      replace HOt2 := hide (HOt2.out.ext hE)
      replace HOx0 := hide (HOx0.out.ext hE)
      replace HOx1 := hide (HOx1.out.ext hE)
      replace Cb0 := hE.get Cb0; replace Cb1 := hE.get Cb1
      replace Cx00 := hE.get Cx00; replace Cx01 := hE.get Cx01
      have hz10 := hE.size
      replace HE := hide (HE.out.trans hE)
      clear hE
      replace HOt1 := hide (HOt1.out.ext hEb)
      replace HOt2 := hide (HOt2.out.ext hEb)
      replace HOx0 := hide (HOx0.out.ext hEb)
      replace HOx1 := hide (HOx1.out.ext hEb)
      replace Cb0 := hEb.get Cb0; replace Cb1 := hEb.get Cb1
      replace Cx00 := hEb.get Cx00; replace Cx01 := hEb.get Cx01
      have hz11 := hEb.size
      replace HE := hide (HE.out.trans hEb)
      clear hEb
      go_wp2_with fail
      refine (toIntS_any _ _ _ xs1 _ (HI1.out.ext HE.out) (by omega)).mono ?_; rintro e w12 ⟨At5, ct5, rfl, ho, hE⟩
      replace HOt1 := hide (HOt1.out.ext hE)
      replace HOt2 := hide (HOt2.out.ext hE)
      replace HOx0 := hide (HOx0.out.ext hE)
      replace HOx1 := hide (HOx1.out.ext hE)
      replace Cb0 := hE.get Cb0; replace Cb1 := hE.get Cb1
      replace Cx00 := hE.get Cx00; replace Cx01 := hE.get Cx01
      have hz12 := hE.size
      replace HE := hide (HE.out.trans hE)
      clear hE
      have HOt5 := hide (InI.mk_ ho); clear ho
      go_wp2_with fail
      refine (eqIntS_any _ _ _ (xs1) _ _ _ (xs1) _ HOx1.out.ints HOt5.out.ints).mono ?_; rintro e w13 ⟨rfl, hE⟩
      replace HOt1 := hide (HOt1.out.ext hE)
      replace HOt2 := hide (HOt2.out.ext hE)
      replace HOx0 := hide (HOx0.out.ext hE)
      replace HOx1 := hide (HOx1.out.ext hE)
      replace HOt5 := hide (HOt5.out.ext hE)
      replace Cb0 := hE.get Cb0; replace Cb1 := hE.get Cb1
      replace Cx00 := hE.get Cx00; replace Cx01 := hE.get Cx01
      have hz13 := hE.size
      replace HE := hide (HE.out.trans hE)
      clear hE
      go_wp2
      go_ret
      exact ⟨by first | rfl | simp, HE.out⟩
    · go_enter Try.func5, Try.ntmps5
      go_wp2_with fail
      obtain ⟨w1, hW⟩ : ∃ W : World, W = w.alloc (.cells #[.int .i64 s0, .slice A0 xs0.length c0] 24) := ⟨_, rfl⟩
      rw [← hW]
      have hE : Ext w w1 := by rw [hW]; exact Ext.one _ _
      have Cb0 : w1.cell? ⟨w.heap.size, 0, none⟩ = some (.int .i64 s0) := by rw [hW]; simp
      have Cb1 : w1.cell? ⟨w.heap.size, 1, none⟩ = some (.slice A0 xs0.length c0) := by rw [hW]; simp
      have hzq1 : w.heap.size + 1 ≤ w1.heap.size := by rw [hW]; simp
      clear hW
      have hz1 := hE.size
      have HE := hide hE
      clear hE
      have HSZ := hide (szLeft_no (n := xs0.length) (left := 1048576) (by omega))
      go_wp2_with fail
      refine (szTour_any _ _ _ _ _ _ (by have := HI0.out.le; have := HI0.out.max; omega) (by omega) (by omega)).mono ?_; rw [HSZ.out]; rintro e w2 ⟨rfl, hE⟩
      replace Cb0 := hE.get Cb0; replace Cb1 := hE.get Cb1
      have hz2 := hE.size
      replace HE := hide (HE.out.trans hE)
      clear hE
      clear HSZ
      go_wp2
      go_ret
      exact ⟨rfl, HE.out⟩
  · go_enter Try.func5, Try.ntmps5
    go_wp2
    go_ret
    exact ⟨rfl, Ext.one _ _⟩
-- law MeetingRound
theorem law_MeetingRound (s0 : Int) (A0 : Option Addr) (n0 c0 : Nat) (xs0 : List Int) (A1 : Option Addr) (n1 c1 : Nat) (xs1 : List Int) (a2 : Int) (a3 : Int) (w : World) (hi0 : I64 s0) (h0 : Ints w A0 n0 c0 xs0) (h1 : Ints w A1 n1 c1 xs1) (hi2 : I64 a2) (hi3 : I64 a3) :
    Calls Try.prog 7 #[.agg #[.int .i64 s0, .slice A0 n0 c0], .slice A1 n1 c1, .int .i64 a2, .int .i64 a3] w fun e w' => e = .returned (.bool true) ∧ Ext w w' := by
  have hl0 := h0.len; subst hl0
  have HI0 := hide h0; clear h0
  have hl1 := h1.len; subst hl1
  have HI1 := hide h1; clear h1
  by_cases hs1 : xs1.length ≤ 1048576
  · skip
    by_cases hs0 : (xs0.length : Int) ≤ 1048576
    · skip
      have hb0 : xs0.length ≤ 1048576 := by omega
      go_enter Try.func7, Try.ntmps7
      go_wp2_with fail
      obtain ⟨w1, hW⟩ : ∃ W : World, W = w.alloc (.cells #[.int .i64 s0, .slice A0 xs0.length c0] 24) := ⟨_, rfl⟩
      rw [← hW]
      have hE : Ext w w1 := by rw [hW]; exact Ext.one _ _
      have Cb0 : w1.cell? ⟨w.heap.size, 0, none⟩ = some (.int .i64 s0) := by rw [hW]; simp
      have Cb1 : w1.cell? ⟨w.heap.size, 1, none⟩ = some (.slice A0 xs0.length c0) := by rw [hW]; simp
      have hzq1 : w.heap.size + 1 ≤ w1.heap.size := by rw [hW]; simp
      clear hW
      have hz1 := hE.size
      have HE := hide hE
      clear hE
      have HSZ := hide (szLeft_yes (n := xs0.length) (left := 1048576) (by omega))
      go_wp2_with fail
      refine (szTour_any _ _ _ _ _ _ (by have := HI0.out.le; have := HI0.out.max; omega) (by omega) (by omega)).mono ?_; rw [HSZ.out]; rintro e w2 ⟨rfl, hE⟩
      replace Cb0 := hE.get Cb0; replace Cb1 := hE.get Cb1
      have hz2 := hE.size
      replace HE := hide (HE.out.trans hE)
      clear hE
      clear HSZ
      go_wp2_with fail
      refine (toTour_any s0 _ _ _ xs0 _ (HI0.out.ext HE.out) (by omega)).mono ?_; rintro e w3 ⟨At1, ct1, rfl, ho, hE⟩
      replace Cb0 := hE.get Cb0; replace Cb1 := hE.get Cb1
      have hz3 := hE.size
      replace HE := hide (HE.out.trans hE)
      clear hE
      have HOt1 := hide (InI.mk_ ho); clear ho
      go_wp2_with fail
      refine (toIntS_any _ _ _ xs1 _ (HI1.out.ext HE.out) (by omega)).mono ?_; rintro e w4 ⟨At2, ct2, rfl, ho, hE⟩
      replace HOt1 := hide (HOt1.out.ext hE)
      replace Cb0 := hE.get Cb0; replace Cb1 := hE.get Cb1
      have hz4 := hE.size
      replace HE := hide (HE.out.trans hE)
      clear hE
      have HOt2 := hide (InI.mk_ ho); clear ho
      go_wp2_with fail
      refine (sMeeting_any s0 _ _ _ xs0 _ _ _ xs1 a2 a3 _ HOt1.out.ints HOt2.out.ints).mono ?_; rintro e w5 ⟨rfl, hE⟩
      replace HOt1 := hide (HOt1.out.ext hE)
      replace HOt2 := hide (HOt2.out.ext hE)
      replace Cb0 := hE.get Cb0; replace Cb1 := hE.get Cb1
      have hz5 := hE.size
      replace HE := hide (HE.out.trans hE)
      clear hE
      go_wp2_with fail
      refine (toTour_any s0 _ _ _ xs0 _ (HI0.out.ext HE.out) (by omega)).mono ?_; rintro e w6 ⟨Ax0, cx0, rfl, ho, hE⟩
      replace HOt1 := hide (HOt1.out.ext hE)
      replace HOt2 := hide (HOt2.out.ext hE)
      replace Cb0 := hE.get Cb0; replace Cb1 := hE.get Cb1
      have hz6 := hE.size
      replace HE := hide (HE.out.trans hE)
      clear hE
      have HOx0 := hide (InI.mk_ ho); clear ho
      go_wp2_with fail
      obtain ⟨w7, hW⟩ : ∃ W : World, W = w6.alloc (.cells #[.int .i64 s0, .slice Ax0 xs0.length cx0] 27) := ⟨_, rfl⟩
      rw [← hW]
      have hE : Ext w6 w7 := by rw [hW]; exact Ext.one _ _
      have Cx00 : w7.cell? ⟨w6.heap.size, 0, none⟩ = some (.int .i64 s0) := by rw [hW]; simp
      have Cx01 : w7.cell? ⟨w6.heap.size, 1, none⟩ = some (.slice Ax0 xs0.length cx0) := by rw [hW]; simp
      have hzq7 : w6.heap.size + 1 ≤ w7.heap.size := by rw [hW]; simp
      clear hW
      replace HOt1 := hide (HOt1.out.ext hE)
      replace HOt2 := hide (HOt2.out.ext hE)
      replace HOx0 := hide (HOx0.out.ext hE)
      replace Cb0 := hE.get Cb0; replace Cb1 := hE.get Cb1
      have hz7 := hE.size
      replace HE := hide (HE.out.trans hE)
      clear hE
      go_wp2_with fail
      refine (toIntS_any _ _ _ xs1 _ (HI1.out.ext HE.out) (by omega)).mono ?_; rintro e w8 ⟨Ax1, cx1, rfl, ho, hE⟩
      replace HOt1 := hide (HOt1.out.ext hE)
      replace HOt2 := hide (HOt2.out.ext hE)
      replace HOx0 := hide (HOx0.out.ext hE)
      replace Cb0 := hE.get Cb0; replace Cb1 := hE.get Cb1
      replace Cx00 := hE.get Cx00; replace Cx01 := hE.get Cx01
      have hz8 := hE.size
      replace HE := hide (HE.out.trans hE)
      clear hE
      have HOx1 := hide (InI.mk_ ho); clear ho
      go_wp2_with fail
      refine (iMeeting_any s0 _ _ _ xs0 _ _ _ xs1 a2 a3 _ HOx0.out.ints HOx1.out.ints).mono ?_; rintro e w9 ⟨rfl, hE⟩
      replace HOt1 := hide (HOt1.out.ext hE)
      replace HOt2 := hide (HOt2.out.ext hE)
      replace HOx0 := hide (HOx0.out.ext hE)
      replace HOx1 := hide (HOx1.out.ext hE)
      replace Cb0 := hE.get Cb0; replace Cb1 := hE.get Cb1
      replace Cx00 := hE.get Cx00; replace Cx01 := hE.get Cx01
      have hz9 := hE.size
      replace HE := hide (HE.out.trans hE)
      clear hE
      go_wp2_with fail
      go_region_held3 (fun w' => w'.cell? ⟨w.heap.size, 0, none⟩ = some (.int .i64 s0) ∧ w'.cell? ⟨w.heap.size, 1, none⟩ = some (.slice A0 xs0.length c0) ∧ w'.cell? ⟨w6.heap.size, 0, none⟩ = some (.int .i64 s0) ∧ w'.cell? ⟨w6.heap.size, 1, none⟩ = some (.slice Ax0 xs0.length cx0))
        (first | exact ⟨Cb0, Cb1, Cx00, Cx01⟩ | exact ⟨hEa.get Cb0, hEa.get Cb1, hEa.get Cx00, hEa.get Cx01⟩ | exact ⟨hEb.get (hEa.get Cb0), hEb.get (hEa.get Cb1), hEb.get (hEa.get Cx00), hEb.get (hEa.get Cx01)⟩)
        (first | (go_at_call 12; refine (toTour_any s0 _ _ _ xs0 _ (HI0.out.ext HE.out.drew) (by omega)).mono ?_; rintro e w10 ⟨At, ct, rfl, ho, hEa⟩) | (go_at_call 15; refine (eqTour_any _ _ _ _ (xs0) _ _ _ _ xs0 _ (HOx0.out.ints.ext ((Ext.refl _).drew.trans hEa)) ho.ints).mono ?_; rintro e w11 ⟨rfl, hEb⟩))
      clear ho
      have hE : Ext w9 w10 := (Ext.refl _).drew.trans hEa
      clear hEa
      replace HOt1 := hide (HOt1.out.ext hE)
      replace HOt2 := hide (HOt2.out.ext hE)
      replace HOx0 := hide (HOx0.out.ext hE)
      replace HOx1 := hide (HOx1.out.ext hE)
      replace Cb0 := hE.get Cb0; replace Cb1 := hE.get Cb1
      replace Cx00 := hE.get Cx00; replace Cx01 := hE.get Cx01
      have hz10 := hE.size
      replace HE := hide (HE.out.trans hE)
      clear hE
      replace HOt1 := hide (HOt1.out.ext hEb)
      replace HOt2 := hide (HOt2.out.ext hEb)
      replace HOx0 := hide (HOx0.out.ext hEb)
      replace HOx1 := hide (HOx1.out.ext hEb)
      replace Cb0 := hEb.get Cb0; replace Cb1 := hEb.get Cb1
      replace Cx00 := hEb.get Cx00; replace Cx01 := hEb.get Cx01
      have hz11 := hEb.size
      replace HE := hide (HE.out.trans hEb)
      clear hEb
      go_wp2_with fail
      refine (toIntS_any _ _ _ xs1 _ (HI1.out.ext HE.out) (by omega)).mono ?_; rintro e w12 ⟨At5, ct5, rfl, ho, hE⟩
      replace HOt1 := hide (HOt1.out.ext hE)
      replace HOt2 := hide (HOt2.out.ext hE)
      replace HOx0 := hide (HOx0.out.ext hE)
      replace HOx1 := hide (HOx1.out.ext hE)
      replace Cb0 := hE.get Cb0; replace Cb1 := hE.get Cb1
      replace Cx00 := hE.get Cx00; replace Cx01 := hE.get Cx01
      have hz12 := hE.size
      replace HE := hide (HE.out.trans hE)
      clear hE
      have HOt5 := hide (InI.mk_ ho); clear ho
      go_wp2_with fail
      refine (eqIntS_any _ _ _ (xs1) _ _ _ (xs1) _ HOx1.out.ints HOt5.out.ints).mono ?_; rintro e w13 ⟨rfl, hE⟩
      replace HOt1 := hide (HOt1.out.ext hE)
      replace HOt2 := hide (HOt2.out.ext hE)
      replace HOx0 := hide (HOx0.out.ext hE)
      replace HOx1 := hide (HOx1.out.ext hE)
      replace HOt5 := hide (HOt5.out.ext hE)
      replace Cb0 := hE.get Cb0; replace Cb1 := hE.get Cb1
      replace Cx00 := hE.get Cx00; replace Cx01 := hE.get Cx01
      have hz13 := hE.size
      replace HE := hide (HE.out.trans hE)
      clear hE
      go_wp2
      go_ret
      exact ⟨by first | rfl | simp, HE.out⟩
    · go_enter Try.func7, Try.ntmps7
      go_wp2_with fail
      obtain ⟨w1, hW⟩ : ∃ W : World, W = w.alloc (.cells #[.int .i64 s0, .slice A0 xs0.length c0] 24) := ⟨_, rfl⟩
      rw [← hW]
      have hE : Ext w w1 := by rw [hW]; exact Ext.one _ _
      have Cb0 : w1.cell? ⟨w.heap.size, 0, none⟩ = some (.int .i64 s0) := by rw [hW]; simp
      have Cb1 : w1.cell? ⟨w.heap.size, 1, none⟩ = some (.slice A0 xs0.length c0) := by rw [hW]; simp
      have hzq1 : w.heap.size + 1 ≤ w1.heap.size := by rw [hW]; simp
      clear hW
      have hz1 := hE.size
      have HE := hide hE
      clear hE
      have HSZ := hide (szLeft_no (n := xs0.length) (left := 1048576) (by omega))
      go_wp2_with fail
      refine (szTour_any _ _ _ _ _ _ (by have := HI0.out.le; have := HI0.out.max; omega) (by omega) (by omega)).mono ?_; rw [HSZ.out]; rintro e w2 ⟨rfl, hE⟩
      replace Cb0 := hE.get Cb0; replace Cb1 := hE.get Cb1
      have hz2 := hE.size
      replace HE := hide (HE.out.trans hE)
      clear hE
      clear HSZ
      go_wp2
      go_ret
      exact ⟨rfl, HE.out⟩
  · go_enter Try.func7, Try.ntmps7
    go_wp2
    go_ret
    exact ⟨rfl, Ext.one _ _⟩
-- law BeatenBy
theorem law_BeatenBy (s0 : Int) (A0 : Option Addr) (n0 c0 : Nat) (xs0 : List Int) (A1 : Option Addr) (n1 c1 : Nat) (xs1 : List Int) (a2 : Int) (w : World) (hi0 : I64 s0) (h0 : Ints w A0 n0 c0 xs0) (h1 : Ints w A1 n1 c1 xs1) (hi2 : I64 a2) :
    Calls Try.prog 6 #[.agg #[.int .i64 s0, .slice A0 n0 c0], .slice A1 n1 c1, .int .i64 a2] w fun e w' => e = .returned (.bool true) ∧ Ext w w' := by
  have hl0 := h0.len; subst hl0
  have HI0 := hide h0; clear h0
  have hl1 := h1.len; subst hl1
  have HI1 := hide h1; clear h1
  by_cases hs1 : xs1.length ≤ 1048576
  · skip
    by_cases hs0 : (xs0.length : Int) ≤ 1048576
    · skip
      have hb0 : xs0.length ≤ 1048576 := by omega
      have hln := beatenBy_len s0 xs0 xs1 a2
      go_enter Try.func6, Try.ntmps6
      go_wp2_with fail
      obtain ⟨w1, hW⟩ : ∃ W : World, W = w.alloc (.cells #[.int .i64 s0, .slice A0 xs0.length c0] 24) := ⟨_, rfl⟩
      rw [← hW]
      have hE : Ext w w1 := by rw [hW]; exact Ext.one _ _
      have Cb0 : w1.cell? ⟨w.heap.size, 0, none⟩ = some (.int .i64 s0) := by rw [hW]; simp
      have Cb1 : w1.cell? ⟨w.heap.size, 1, none⟩ = some (.slice A0 xs0.length c0) := by rw [hW]; simp
      have hzq1 : w.heap.size + 1 ≤ w1.heap.size := by rw [hW]; simp
      clear hW
      have hz1 := hE.size
      have HE := hide hE
      clear hE
      have HSZ := hide (szLeft_yes (n := xs0.length) (left := 1048576) (by omega))
      go_wp2_with fail
      refine (szTour_any _ _ _ _ _ _ (by have := HI0.out.le; have := HI0.out.max; omega) (by omega) (by omega)).mono ?_; rw [HSZ.out]; rintro e w2 ⟨rfl, hE⟩
      replace Cb0 := hE.get Cb0; replace Cb1 := hE.get Cb1
      have hz2 := hE.size
      replace HE := hide (HE.out.trans hE)
      clear hE
      clear HSZ
      go_wp2_with fail
      refine (toTour_any s0 _ _ _ xs0 _ (HI0.out.ext HE.out) (by omega)).mono ?_; rintro e w3 ⟨At1, ct1, rfl, ho, hE⟩
      replace Cb0 := hE.get Cb0; replace Cb1 := hE.get Cb1
      have hz3 := hE.size
      replace HE := hide (HE.out.trans hE)
      clear hE
      have HOt1 := hide (InI.mk_ ho); clear ho
      go_wp2_with fail
      refine (toIntS_any _ _ _ xs1 _ (HI1.out.ext HE.out) (by omega)).mono ?_; rintro e w4 ⟨At2, ct2, rfl, ho, hE⟩
      replace HOt1 := hide (HOt1.out.ext hE)
      replace Cb0 := hE.get Cb0; replace Cb1 := hE.get Cb1
      have hz4 := hE.size
      replace HE := hide (HE.out.trans hE)
      clear hE
      have HOt2 := hide (InI.mk_ ho); clear ho
      go_wp2_with fail
      refine (sBeatenBy_any s0 _ _ _ xs0 _ _ _ xs1 a2 _ HOt1.out.ints HOt2.out.ints).mono ?_; rintro e w5 ⟨Aw0, cw0, rfl, ho0, hE⟩
      replace HOt1 := hide (HOt1.out.ext hE)
      replace HOt2 := hide (HOt2.out.ext hE)
      replace Cb0 := hE.get Cb0; replace Cb1 := hE.get Cb1
      have hz5 := hE.size
      replace HE := hide (HE.out.trans hE)
      clear hE
      have HOw0 := hide (InI.mk_ ho0); clear ho0
      go_wp2_with fail
      refine (toTour_any s0 _ _ _ xs0 _ (HI0.out.ext HE.out) (by omega)).mono ?_; rintro e w6 ⟨Ax0, cx0, rfl, ho, hE⟩
      replace HOt1 := hide (HOt1.out.ext hE)
      replace HOt2 := hide (HOt2.out.ext hE)
      replace HOw0 := hide (HOw0.out.ext hE)
      replace Cb0 := hE.get Cb0; replace Cb1 := hE.get Cb1
      have hz6 := hE.size
      replace HE := hide (HE.out.trans hE)
      clear hE
      have HOx0 := hide (InI.mk_ ho); clear ho
      go_wp2_with fail
      obtain ⟨w7, hW⟩ : ∃ W : World, W = w6.alloc (.cells #[.int .i64 s0, .slice Ax0 xs0.length cx0] 27) := ⟨_, rfl⟩
      rw [← hW]
      have hE : Ext w6 w7 := by rw [hW]; exact Ext.one _ _
      have Cx00 : w7.cell? ⟨w6.heap.size, 0, none⟩ = some (.int .i64 s0) := by rw [hW]; simp
      have Cx01 : w7.cell? ⟨w6.heap.size, 1, none⟩ = some (.slice Ax0 xs0.length cx0) := by rw [hW]; simp
      have hzq7 : w6.heap.size + 1 ≤ w7.heap.size := by rw [hW]; simp
      clear hW
      replace HOt1 := hide (HOt1.out.ext hE)
      replace HOt2 := hide (HOt2.out.ext hE)
      replace HOw0 := hide (HOw0.out.ext hE)
      replace HOx0 := hide (HOx0.out.ext hE)
      replace Cb0 := hE.get Cb0; replace Cb1 := hE.get Cb1
      have hz7 := hE.size
      replace HE := hide (HE.out.trans hE)
      clear hE
      go_wp2_with fail
      refine (toIntS_any _ _ _ xs1 _ (HI1.out.ext HE.out) (by omega)).mono ?_; rintro e w8 ⟨Ax1, cx1, rfl, ho, hE⟩
      replace HOt1 := hide (HOt1.out.ext hE)
      replace HOt2 := hide (HOt2.out.ext hE)
      replace HOw0 := hide (HOw0.out.ext hE)
      replace HOx0 := hide (HOx0.out.ext hE)
      replace Cb0 := hE.get Cb0; replace Cb1 := hE.get Cb1
      replace Cx00 := hE.get Cx00; replace Cx01 := hE.get Cx01
      have hz8 := hE.size
      replace HE := hide (HE.out.trans hE)
      clear hE
      have HOx1 := hide (InI.mk_ ho); clear ho
      go_wp2_with fail
      refine (iBeatenBy_any s0 _ _ _ xs0 _ _ _ xs1 a2 _ HOx0.out.ints HOx1.out.ints).mono ?_; rintro e w9 ⟨Ag0, cg0, rfl, ho0, hE⟩
      replace HOt1 := hide (HOt1.out.ext hE)
      replace HOt2 := hide (HOt2.out.ext hE)
      replace HOw0 := hide (HOw0.out.ext hE)
      replace HOx0 := hide (HOx0.out.ext hE)
      replace HOx1 := hide (HOx1.out.ext hE)
      replace Cb0 := hE.get Cb0; replace Cb1 := hE.get Cb1
      replace Cx00 := hE.get Cx00; replace Cx01 := hE.get Cx01
      have hz9 := hE.size
      replace HE := hide (HE.out.trans hE)
      clear hE
      have HOg0 := hide (InI.mk_ ho0); clear ho0
      go_wp2_with fail
      refine (eqIntS_any _ _ _ (beatenBy s0 xs0 xs1 a2) _ _ _ (beatenBy s0 xs0 xs1 a2) _ HOg0.out.ints HOw0.out.ints).mono ?_; rintro e w10 ⟨rfl, hE⟩
      replace HOt1 := hide (HOt1.out.ext hE)
      replace HOt2 := hide (HOt2.out.ext hE)
      replace HOw0 := hide (HOw0.out.ext hE)
      replace HOx0 := hide (HOx0.out.ext hE)
      replace HOx1 := hide (HOx1.out.ext hE)
      replace HOg0 := hide (HOg0.out.ext hE)
      replace Cb0 := hE.get Cb0; replace Cb1 := hE.get Cb1
      replace Cx00 := hE.get Cx00; replace Cx01 := hE.get Cx01
      have hz10 := hE.size
      replace HE := hide (HE.out.trans hE)
      clear hE
      go_wp2_with fail
      go_region_held3 (fun w' => w'.cell? ⟨w.heap.size, 0, none⟩ = some (.int .i64 s0) ∧ w'.cell? ⟨w.heap.size, 1, none⟩ = some (.slice A0 xs0.length c0) ∧ w'.cell? ⟨w6.heap.size, 0, none⟩ = some (.int .i64 s0) ∧ w'.cell? ⟨w6.heap.size, 1, none⟩ = some (.slice Ax0 xs0.length cx0))
        (first | exact ⟨Cb0, Cb1, Cx00, Cx01⟩ | exact ⟨hEa.get Cb0, hEa.get Cb1, hEa.get Cx00, hEa.get Cx01⟩ | exact ⟨hEb.get (hEa.get Cb0), hEb.get (hEa.get Cb1), hEb.get (hEa.get Cx00), hEb.get (hEa.get Cx01)⟩)
        (first | (go_at_call 12; refine (toTour_any s0 _ _ _ xs0 _ (HI0.out.ext HE.out.drew) (by omega)).mono ?_; rintro e w11 ⟨At, ct, rfl, ho, hEa⟩) | (go_at_call 15; refine (eqTour_any _ _ _ _ (xs0) _ _ _ _ xs0 _ (HOx0.out.ints.ext ((Ext.refl _).drew.trans hEa)) ho.ints).mono ?_; rintro e w12 ⟨rfl, hEb⟩))
      clear ho
      have hE : Ext w10 w11 := (Ext.refl _).drew.trans hEa
      clear hEa
      replace HOt1 := hide (HOt1.out.ext hE)
      replace HOt2 := hide (HOt2.out.ext hE)
      replace HOw0 := hide (HOw0.out.ext hE)
      replace HOx0 := hide (HOx0.out.ext hE)
      replace HOx1 := hide (HOx1.out.ext hE)
      replace HOg0 := hide (HOg0.out.ext hE)
      replace Cb0 := hE.get Cb0; replace Cb1 := hE.get Cb1
      replace Cx00 := hE.get Cx00; replace Cx01 := hE.get Cx01
      have hz11 := hE.size
      replace HE := hide (HE.out.trans hE)
      clear hE
      replace HOt1 := hide (HOt1.out.ext hEb)
      replace HOt2 := hide (HOt2.out.ext hEb)
      replace HOw0 := hide (HOw0.out.ext hEb)
      replace HOx0 := hide (HOx0.out.ext hEb)
      replace HOx1 := hide (HOx1.out.ext hEb)
      replace HOg0 := hide (HOg0.out.ext hEb)
      replace Cb0 := hEb.get Cb0; replace Cb1 := hEb.get Cb1
      replace Cx00 := hEb.get Cx00; replace Cx01 := hEb.get Cx01
      have hz12 := hEb.size
      replace HE := hide (HE.out.trans hEb)
      clear hEb
      go_wp2_with fail
      refine (toIntS_any _ _ _ xs1 _ (HI1.out.ext HE.out) (by omega)).mono ?_; rintro e w13 ⟨At5, ct5, rfl, ho, hE⟩
      replace HOt1 := hide (HOt1.out.ext hE)
      replace HOt2 := hide (HOt2.out.ext hE)
      replace HOw0 := hide (HOw0.out.ext hE)
      replace HOx0 := hide (HOx0.out.ext hE)
      replace HOx1 := hide (HOx1.out.ext hE)
      replace HOg0 := hide (HOg0.out.ext hE)
      replace Cb0 := hE.get Cb0; replace Cb1 := hE.get Cb1
      replace Cx00 := hE.get Cx00; replace Cx01 := hE.get Cx01
      have hz13 := hE.size
      replace HE := hide (HE.out.trans hE)
      clear hE
      have HOt5 := hide (InI.mk_ ho); clear ho
      go_wp2_with fail
      refine (eqIntS_any _ _ _ (xs1) _ _ _ (xs1) _ HOx1.out.ints HOt5.out.ints).mono ?_; rintro e w14 ⟨rfl, hE⟩
      replace HOt1 := hide (HOt1.out.ext hE)
      replace HOt2 := hide (HOt2.out.ext hE)
      replace HOw0 := hide (HOw0.out.ext hE)
      replace HOx0 := hide (HOx0.out.ext hE)
      replace HOx1 := hide (HOx1.out.ext hE)
      replace HOg0 := hide (HOg0.out.ext hE)
      replace HOt5 := hide (HOt5.out.ext hE)
      replace Cb0 := hE.get Cb0; replace Cb1 := hE.get Cb1
      replace Cx00 := hE.get Cx00; replace Cx01 := hE.get Cx01
      have hz14 := hE.size
      replace HE := hide (HE.out.trans hE)
      clear hE
      go_wp2_with fail
      refine (markTour_in _ _ _ _ (xs0) _ _ HOx0.out (by omega) (by omega)).mono ?_; rintro e w15 ⟨rfl, ho, hg⟩
      have hz15 := hg.size
      replace HOt1 := hide (HOt1.out.only hg (by omega))
      replace HOt2 := hide (HOt2.out.only hg (by omega))
      replace HOw0 := hide (HOw0.out.only hg (by omega))
      replace HOx1 := hide (HOx1.out.only hg (by omega))
      replace HOg0 := hide (HOg0.out.only hg (by omega))
      replace HOt5 := hide (HOt5.out.only hg (by omega))
      replace HE := hide (HE.out.only hg (by omega))
      replace Cb0 := hg.get Cb0 (by omega); replace Cb1 := hg.get Cb1 (by omega)
      replace Cx00 := hg.get Cx00 (by omega); replace Cx01 := hg.get Cx01 (by omega)
      replace HOx0 := hide ho; clear ho hg
      go_wp2_with fail
      refine (markIntS_in _ _ _ (xs1) _ _ HOx1.out (by omega) (by omega)).mono ?_; rintro e w16 ⟨rfl, ho, hg⟩
      have hz16 := hg.size
      replace HOt1 := hide (HOt1.out.only hg (by omega))
      replace HOt2 := hide (HOt2.out.only hg (by omega))
      replace HOw0 := hide (HOw0.out.only hg (by omega))
      replace HOx0 := hide (HOx0.out.only hg (by omega))
      replace HOg0 := hide (HOg0.out.only hg (by omega))
      replace HOt5 := hide (HOt5.out.only hg (by omega))
      replace HE := hide (HE.out.only hg (by omega))
      replace Cb0 := hg.get Cb0 (by omega); replace Cb1 := hg.get Cb1 (by omega)
      replace Cx00 := hg.get Cx00 (by omega); replace Cx01 := hg.get Cx01 (by omega)
      replace HOx1 := hide ho; clear ho hg
      go_wp2_with fail
      refine (eqIntS_any _ _ _ (beatenBy s0 xs0 xs1 a2) _ _ _ (beatenBy s0 xs0 xs1 a2) _ HOg0.out.ints HOw0.out.ints).mono ?_; rintro e w17 ⟨rfl, hE⟩
      replace HOt1 := hide (HOt1.out.ext hE)
      replace HOt2 := hide (HOt2.out.ext hE)
      replace HOw0 := hide (HOw0.out.ext hE)
      replace HOx0 := hide (HOx0.out.ext hE)
      replace HOx1 := hide (HOx1.out.ext hE)
      replace HOg0 := hide (HOg0.out.ext hE)
      replace HOt5 := hide (HOt5.out.ext hE)
      replace Cb0 := hE.get Cb0; replace Cb1 := hE.get Cb1
      replace Cx00 := hE.get Cx00; replace Cx01 := hE.get Cx01
      have hz17 := hE.size
      replace HE := hide (HE.out.trans hE)
      clear hE
      go_wp2_with fail
      refine (markIntS_in _ _ _ (beatenBy s0 xs0 xs1 a2) _ _ HOg0.out (by omega) (by omega)).mono ?_; rintro e w18 ⟨rfl, ho, hg⟩
      have hz18 := hg.size
      replace HOt1 := hide (HOt1.out.only hg (by omega))
      replace HOt2 := hide (HOt2.out.only hg (by omega))
      replace HOw0 := hide (HOw0.out.only hg (by omega))
      replace HOx0 := hide (HOx0.out.only hg (by omega))
      replace HOx1 := hide (HOx1.out.only hg (by omega))
      replace HOt5 := hide (HOt5.out.only hg (by omega))
      replace HE := hide (HE.out.only hg (by omega))
      replace Cb0 := hg.get Cb0 (by omega); replace Cb1 := hg.get Cb1 (by omega)
      replace Cx00 := hg.get Cx00 (by omega); replace Cx01 := hg.get Cx01 (by omega)
      replace HOg0 := hide ho; clear ho hg
      go_wp2_with fail
      refine (heldIntS_any _ _ _ _ _ HOg0.out.ints (by omega) (by omega)).mono ?_; rintro e w' ⟨rfl, rfl⟩
      go_wp2_with fail
      refine (toTour_any s0 _ _ _ xs0 _ (HI0.out.ext HE.out) (by omega)).mono ?_; rintro e w19 ⟨At6, ct6, rfl, ho, hE⟩
      replace HOt1 := hide (HOt1.out.ext hE)
      replace HOt2 := hide (HOt2.out.ext hE)
      replace HOw0 := hide (HOw0.out.ext hE)
      replace HOx0 := hide (HOx0.out.ext hE)
      replace HOx1 := hide (HOx1.out.ext hE)
      replace HOg0 := hide (HOg0.out.ext hE)
      replace HOt5 := hide (HOt5.out.ext hE)
      replace Cb0 := hE.get Cb0; replace Cb1 := hE.get Cb1
      replace Cx00 := hE.get Cx00; replace Cx01 := hE.get Cx01
      have hz19 := hE.size
      replace HE := hide (HE.out.trans hE)
      clear hE
      have HOt6 := hide (InI.mk_ ho); clear ho
      go_wp2_with fail
      refine (toIntS_any _ _ _ xs1 _ (HI1.out.ext HE.out) (by omega)).mono ?_; rintro e w20 ⟨At7, ct7, rfl, ho, hE⟩
      replace HOt1 := hide (HOt1.out.ext hE)
      replace HOt2 := hide (HOt2.out.ext hE)
      replace HOw0 := hide (HOw0.out.ext hE)
      replace HOx0 := hide (HOx0.out.ext hE)
      replace HOx1 := hide (HOx1.out.ext hE)
      replace HOg0 := hide (HOg0.out.ext hE)
      replace HOt5 := hide (HOt5.out.ext hE)
      replace HOt6 := hide (HOt6.out.ext hE)
      replace Cb0 := hE.get Cb0; replace Cb1 := hE.get Cb1
      replace Cx00 := hE.get Cx00; replace Cx01 := hE.get Cx01
      have hz20 := hE.size
      replace HE := hide (HE.out.trans hE)
      clear hE
      have HOt7 := hide (InI.mk_ ho); clear ho
      go_wp2_with fail
      refine (iBeatenBy_any s0 _ _ _ xs0 _ _ _ xs1 a2 _ HOt6.out.ints HOt7.out.ints).mono ?_; rintro e w21 ⟨Ah0, ch0, rfl, ho0, hE⟩
      replace HOt1 := hide (HOt1.out.ext hE)
      replace HOt2 := hide (HOt2.out.ext hE)
      replace HOw0 := hide (HOw0.out.ext hE)
      replace HOx0 := hide (HOx0.out.ext hE)
      replace HOx1 := hide (HOx1.out.ext hE)
      replace HOg0 := hide (HOg0.out.ext hE)
      replace HOt5 := hide (HOt5.out.ext hE)
      replace HOt6 := hide (HOt6.out.ext hE)
      replace HOt7 := hide (HOt7.out.ext hE)
      replace Cb0 := hE.get Cb0; replace Cb1 := hE.get Cb1
      replace Cx00 := hE.get Cx00; replace Cx01 := hE.get Cx01
      have hz21 := hE.size
      replace HE := hide (HE.out.trans hE)
      clear hE
      have HOh0 := hide (InI.mk_ ho0); clear ho0
      go_wp2_with fail
      refine (eqIntS_any _ _ _ (beatenBy s0 xs0 xs1 a2) _ _ _ (beatenBy s0 xs0 xs1 a2) _ HOh0.out.ints HOw0.out.ints).mono ?_; rintro e w22 ⟨rfl, hE⟩
      replace HOt1 := hide (HOt1.out.ext hE)
      replace HOt2 := hide (HOt2.out.ext hE)
      replace HOw0 := hide (HOw0.out.ext hE)
      replace HOx0 := hide (HOx0.out.ext hE)
      replace HOx1 := hide (HOx1.out.ext hE)
      replace HOg0 := hide (HOg0.out.ext hE)
      replace HOt5 := hide (HOt5.out.ext hE)
      replace HOt6 := hide (HOt6.out.ext hE)
      replace HOt7 := hide (HOt7.out.ext hE)
      replace HOh0 := hide (HOh0.out.ext hE)
      replace Cb0 := hE.get Cb0; replace Cb1 := hE.get Cb1
      replace Cx00 := hE.get Cx00; replace Cx01 := hE.get Cx01
      have hz22 := hE.size
      replace HE := hide (HE.out.trans hE)
      clear hE
      go_wp2_with fail
      refine (heldIntS_any _ _ _ _ _ HOg0.out.ints (by omega) (by omega)).mono ?_; rintro e w' ⟨rfl, rfl⟩
      go_wp2
      go_ret
      exact ⟨by first | rfl | simp, HE.out⟩
    · go_enter Try.func6, Try.ntmps6
      go_wp2_with fail
      obtain ⟨w1, hW⟩ : ∃ W : World, W = w.alloc (.cells #[.int .i64 s0, .slice A0 xs0.length c0] 24) := ⟨_, rfl⟩
      rw [← hW]
      have hE : Ext w w1 := by rw [hW]; exact Ext.one _ _
      have Cb0 : w1.cell? ⟨w.heap.size, 0, none⟩ = some (.int .i64 s0) := by rw [hW]; simp
      have Cb1 : w1.cell? ⟨w.heap.size, 1, none⟩ = some (.slice A0 xs0.length c0) := by rw [hW]; simp
      have hzq1 : w.heap.size + 1 ≤ w1.heap.size := by rw [hW]; simp
      clear hW
      have hz1 := hE.size
      have HE := hide hE
      clear hE
      have HSZ := hide (szLeft_no (n := xs0.length) (left := 1048576) (by omega))
      go_wp2_with fail
      refine (szTour_any _ _ _ _ _ _ (by have := HI0.out.le; have := HI0.out.max; omega) (by omega) (by omega)).mono ?_; rw [HSZ.out]; rintro e w2 ⟨rfl, hE⟩
      replace Cb0 := hE.get Cb0; replace Cb1 := hE.get Cb1
      have hz2 := hE.size
      replace HE := hide (HE.out.trans hE)
      clear hE
      clear HSZ
      go_wp2
      go_ret
      exact ⟨rfl, HE.out⟩
  · go_enter Try.func6, Try.ntmps6
    go_wp2
    go_ret
    exact ⟨rfl, Ext.one _ _⟩
-- law IsMonotone
theorem law_IsMonotone (s0 : Int) (A0 : Option Addr) (n0 c0 : Nat) (xs0 : List Int) (w : World) (hi0 : I64 s0) (h0 : Ints w A0 n0 c0 xs0) :
    Calls Try.prog 8 #[.agg #[.int .i64 s0, .slice A0 n0 c0]] w fun e w' => e = .returned (.bool true) ∧ Ext w w' := by
  have hl0 := h0.len; subst hl0
  have HI0 := hide h0; clear h0
  by_cases hs0 : (xs0.length : Int) ≤ 1048576
  · skip
    have hb0 : xs0.length ≤ 1048576 := by omega
    go_enter Try.func8, Try.ntmps8
    go_wp2_with fail
    obtain ⟨w1, hW⟩ : ∃ W : World, W = w.alloc (.cells #[.int .i64 s0, .slice A0 xs0.length c0] 24) := ⟨_, rfl⟩
    rw [← hW]
    have hE : Ext w w1 := by rw [hW]; exact Ext.one _ _
    have Cb0 : w1.cell? ⟨w.heap.size, 0, none⟩ = some (.int .i64 s0) := by rw [hW]; simp
    have Cb1 : w1.cell? ⟨w.heap.size, 1, none⟩ = some (.slice A0 xs0.length c0) := by rw [hW]; simp
    have hzq1 : w.heap.size + 1 ≤ w1.heap.size := by rw [hW]; simp
    clear hW
    have hz1 := hE.size
    have HE := hide hE
    clear hE
    have HSZ := hide (szLeft_yes (n := xs0.length) (left := 1048576) (by omega))
    go_wp2_with fail
    refine (szTour_any _ _ _ _ _ _ (by have := HI0.out.le; have := HI0.out.max; omega) (by omega) (by omega)).mono ?_; rw [HSZ.out]; rintro e w2 ⟨rfl, hE⟩
    replace Cb0 := hE.get Cb0; replace Cb1 := hE.get Cb1
    have hz2 := hE.size
    replace HE := hide (HE.out.trans hE)
    clear hE
    clear HSZ
    go_wp2_with fail
    refine (toTour_any s0 _ _ _ xs0 _ (HI0.out.ext HE.out) (by omega)).mono ?_; rintro e w3 ⟨At1, ct1, rfl, ho, hE⟩
    replace Cb0 := hE.get Cb0; replace Cb1 := hE.get Cb1
    have hz3 := hE.size
    replace HE := hide (HE.out.trans hE)
    clear hE
    have HOt1 := hide (InI.mk_ ho); clear ho
    go_wp2_with fail
    refine (sMonotone_any s0 _ _ _ xs0 _ HOt1.out.ints).mono ?_; rintro e w4 ⟨rfl, hE⟩
    replace HOt1 := hide (HOt1.out.ext hE)
    replace Cb0 := hE.get Cb0; replace Cb1 := hE.get Cb1
    have hz4 := hE.size
    replace HE := hide (HE.out.trans hE)
    clear hE
    go_wp2_with fail
    refine (toTour_any s0 _ _ _ xs0 _ (HI0.out.ext HE.out) (by omega)).mono ?_; rintro e w5 ⟨Ax0, cx0, rfl, ho, hE⟩
    replace HOt1 := hide (HOt1.out.ext hE)
    replace Cb0 := hE.get Cb0; replace Cb1 := hE.get Cb1
    have hz5 := hE.size
    replace HE := hide (HE.out.trans hE)
    clear hE
    have HOx0 := hide (InI.mk_ ho); clear ho
    go_wp2_with fail
    obtain ⟨w6, hW⟩ : ∃ W : World, W = w5.alloc (.cells #[.int .i64 s0, .slice Ax0 xs0.length cx0] 27) := ⟨_, rfl⟩
    rw [← hW]
    have hE : Ext w5 w6 := by rw [hW]; exact Ext.one _ _
    have Cx00 : w6.cell? ⟨w5.heap.size, 0, none⟩ = some (.int .i64 s0) := by rw [hW]; simp
    have Cx01 : w6.cell? ⟨w5.heap.size, 1, none⟩ = some (.slice Ax0 xs0.length cx0) := by rw [hW]; simp
    have hzq6 : w5.heap.size + 1 ≤ w6.heap.size := by rw [hW]; simp
    clear hW
    replace HOt1 := hide (HOt1.out.ext hE)
    replace HOx0 := hide (HOx0.out.ext hE)
    replace Cb0 := hE.get Cb0; replace Cb1 := hE.get Cb1
    have hz6 := hE.size
    replace HE := hide (HE.out.trans hE)
    clear hE
    go_wp2_with fail
    refine (iMonotone_any s0 _ _ _ xs0 _ HOx0.out.ints).mono ?_; rintro e w7 ⟨rfl, hE⟩
    replace HOt1 := hide (HOt1.out.ext hE)
    replace HOx0 := hide (HOx0.out.ext hE)
    replace Cb0 := hE.get Cb0; replace Cb1 := hE.get Cb1
    replace Cx00 := hE.get Cx00; replace Cx01 := hE.get Cx01
    have hz7 := hE.size
    replace HE := hide (HE.out.trans hE)
    clear hE
    go_wp2_with fail
    go_region_held3 (fun w' => w'.cell? ⟨w.heap.size, 0, none⟩ = some (.int .i64 s0) ∧ w'.cell? ⟨w.heap.size, 1, none⟩ = some (.slice A0 xs0.length c0) ∧ w'.cell? ⟨w5.heap.size, 0, none⟩ = some (.int .i64 s0) ∧ w'.cell? ⟨w5.heap.size, 1, none⟩ = some (.slice Ax0 xs0.length cx0))
      (first | exact ⟨Cb0, Cb1, Cx00, Cx01⟩ | exact ⟨hEa.get Cb0, hEa.get Cb1, hEa.get Cx00, hEa.get Cx01⟩ | exact ⟨hEb.get (hEa.get Cb0), hEb.get (hEa.get Cb1), hEb.get (hEa.get Cx00), hEb.get (hEa.get Cx01)⟩)
      (first | (go_at_call 12; refine (toTour_any s0 _ _ _ xs0 _ (HI0.out.ext HE.out.drew) (by omega)).mono ?_; rintro e w8 ⟨At, ct, rfl, ho, hEa⟩) | (go_at_call 15; refine (eqTour_any _ _ _ _ (xs0) _ _ _ _ xs0 _ (HOx0.out.ints.ext ((Ext.refl _).drew.trans hEa)) ho.ints).mono ?_; rintro e w9 ⟨rfl, hEb⟩))
    clear ho
    have hE : Ext w7 w8 := (Ext.refl _).drew.trans hEa
    clear hEa
    replace HOt1 := hide (HOt1.out.ext hE)
    replace HOx0 := hide (HOx0.out.ext hE)
    replace Cb0 := hE.get Cb0; replace Cb1 := hE.get Cb1
    replace Cx00 := hE.get Cx00; replace Cx01 := hE.get Cx01
    have hz8 := hE.size
    replace HE := hide (HE.out.trans hE)
    clear hE
    replace HOt1 := hide (HOt1.out.ext hEb)
    replace HOx0 := hide (HOx0.out.ext hEb)
    replace Cb0 := hEb.get Cb0; replace Cb1 := hEb.get Cb1
    replace Cx00 := hEb.get Cx00; replace Cx01 := hEb.get Cx01
    have hz9 := hEb.size
    replace HE := hide (HE.out.trans hEb)
    clear hEb
    go_wp2
    go_ret
    exact ⟨by first | rfl | simp, HE.out⟩
  · go_enter Try.func8, Try.ntmps8
    go_wp2_with fail
    obtain ⟨w1, hW⟩ : ∃ W : World, W = w.alloc (.cells #[.int .i64 s0, .slice A0 xs0.length c0] 24) := ⟨_, rfl⟩
    rw [← hW]
    have hE : Ext w w1 := by rw [hW]; exact Ext.one _ _
    have Cb0 : w1.cell? ⟨w.heap.size, 0, none⟩ = some (.int .i64 s0) := by rw [hW]; simp
    have Cb1 : w1.cell? ⟨w.heap.size, 1, none⟩ = some (.slice A0 xs0.length c0) := by rw [hW]; simp
    have hzq1 : w.heap.size + 1 ≤ w1.heap.size := by rw [hW]; simp
    clear hW
    have hz1 := hE.size
    have HE := hide hE
    clear hE
    have HSZ := hide (szLeft_no (n := xs0.length) (left := 1048576) (by omega))
    go_wp2_with fail
    refine (szTour_any _ _ _ _ _ _ (by have := HI0.out.le; have := HI0.out.max; omega) (by omega) (by omega)).mono ?_; rw [HSZ.out]; rintro e w2 ⟨rfl, hE⟩
    replace Cb0 := hE.get Cb0; replace Cb1 := hE.get Cb1
    have hz2 := hE.size
    replace HE := hide (HE.out.trans hE)
    clear hE
    clear HSZ
    go_wp2
    go_ret
    exact ⟨rfl, HE.out⟩

end Go.Proofs.Ytolmelpdhdhcgaa
