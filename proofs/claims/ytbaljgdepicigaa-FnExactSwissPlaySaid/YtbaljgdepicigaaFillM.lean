/-
  The laws on the first pairing and on play.
-/
import Derived.Laws.ShiftsVar
import Derived.Test.YtbaljgdepicigaaBase
import Derived.Test.YtbaljgdepicigaaMathA
import Derived.Test.YtbaljgdepicigaaMathD
import Derived.Test.YtbaljgdepicigaaLib
import Derived.Test.YtbaljgdepicigaaAid
import Derived.Test.YtbaljgdepicigaaStep
import Derived.Test.YtbaljgdepicigaaGrid
import Derived.Test.YtbaljgdepicigaaLibF
import Derived.Test.YtbaljgdepicigaaMathB
import Derived.Test.YtbaljgdepicigaaMathU
import Derived.Test.YtbaljgdepicigaaMathS
import Derived.Test.YtbaljgdepicigaaMathP
import Derived.Test.YtbaljgdepicigaaFillH
import Derived.Test.YtbaljgdepicigaaFillI
import Derived.Test.YtbaljgdepicigaaPlayA
import Derived.Test.YtbaljgdepicigaaPlayB
import Derived.Test.YtbaljgdepicigaaPlayC
namespace Go.Proofs.Ytbaljgdepicigaa
open Go.RowKit
set_option linter.unusedVariables false

-- law PairSwiss
theorem law_PairSwiss (A0 : Option Addr) (n0 c0 : Nat) (xs0 : List Int) (A1 : Option Addr) (n1 c1 : Nat) (xs1 : List Int) (w : World) (h0 : Ints w A0 n0 c0 xs0) (h1 : Ints w A1 n1 c1 xs1) :
    Calls Try.prog 11 #[.slice A0 n0 c0, .slice A1 n1 c1] w fun e w' => e = .returned (.bool true) ∧ Ext w w' := by
  have hl0 := h0.len; subst hl0
  have HI0 := hide h0; clear h0
  have hl1 := h1.len; subst hl1
  have HI1 := hide h1; clear h1
  by_cases hs0 : xs0.length ≤ 1048576
  · skip
    by_cases hs1 : xs1.length ≤ 1048576
    · skip
      have hln := pairV_len xs0 xs1
      go_enter Try.func11, Try.ntmps11
      go_wp2_with fail
      refine (toIntS_any _ _ _ xs0 _ HI0.out (by omega)).mono ?_; rintro e w1 ⟨At1, ct1, rfl, ho, hE⟩
      have hz1 := hE.size
      have HE := hide hE
      clear hE
      have HOt1 := hide (InI.mk_ ho); clear ho
      go_wp2_with fail
      refine (toIntS_any _ _ _ xs1 _ (HI1.out.ext HE.out) (by omega)).mono ?_; rintro e w2 ⟨At2, ct2, rfl, ho, hE⟩
      replace HOt1 := hide (HOt1.out.ext hE)
      have hz2 := hE.size
      replace HE := hide (HE.out.trans hE)
      clear hE
      have HOt2 := hide (InI.mk_ ho); clear ho
      go_wp2_with fail
      refine (sPair_any _ _ _ xs0 _ _ _ xs1 _ HOt1.out.ints HOt2.out.ints).mono ?_; rintro e w3 ⟨Aw0, cw0, rfl, ho0, hE⟩
      replace HOt1 := hide (HOt1.out.ext hE)
      replace HOt2 := hide (HOt2.out.ext hE)
      have hz3 := hE.size
      replace HE := hide (HE.out.trans hE)
      clear hE
      have HOw0 := hide (InI.mk_ ho0); clear ho0
      go_wp2_with fail
      refine (toIntS_any _ _ _ xs0 _ (HI0.out.ext HE.out) (by omega)).mono ?_; rintro e w4 ⟨Ax0, cx0, rfl, ho, hE⟩
      replace HOt1 := hide (HOt1.out.ext hE)
      replace HOt2 := hide (HOt2.out.ext hE)
      replace HOw0 := hide (HOw0.out.ext hE)
      have hz4 := hE.size
      replace HE := hide (HE.out.trans hE)
      clear hE
      have HOx0 := hide (InI.mk_ ho); clear ho
      go_wp2_with fail
      refine (toIntS_any _ _ _ xs1 _ (HI1.out.ext HE.out) (by omega)).mono ?_; rintro e w5 ⟨Ax1, cx1, rfl, ho, hE⟩
      replace HOt1 := hide (HOt1.out.ext hE)
      replace HOt2 := hide (HOt2.out.ext hE)
      replace HOw0 := hide (HOw0.out.ext hE)
      replace HOx0 := hide (HOx0.out.ext hE)
      have hz5 := hE.size
      replace HE := hide (HE.out.trans hE)
      clear hE
      have HOx1 := hide (InI.mk_ ho); clear ho
      go_wp2_with fail
      refine (iPair_any _ _ _ xs0 _ _ _ xs1 _ HOx0.out.ints HOx1.out.ints).mono ?_; rintro e w6 ⟨Ag0, cg0, rfl, ho0, hE⟩
      replace HOt1 := hide (HOt1.out.ext hE)
      replace HOt2 := hide (HOt2.out.ext hE)
      replace HOw0 := hide (HOw0.out.ext hE)
      replace HOx0 := hide (HOx0.out.ext hE)
      replace HOx1 := hide (HOx1.out.ext hE)
      have hz6 := hE.size
      replace HE := hide (HE.out.trans hE)
      clear hE
      have HOg0 := hide (InI.mk_ ho0); clear ho0
      go_wp2_with fail
      refine (eqIntS_any _ _ _ (pairV xs0 xs1) _ _ _ (pairV xs0 xs1) _ HOg0.out.ints HOw0.out.ints).mono ?_; rintro e w7 ⟨rfl, hE⟩
      replace HOt1 := hide (HOt1.out.ext hE)
      replace HOt2 := hide (HOt2.out.ext hE)
      replace HOw0 := hide (HOw0.out.ext hE)
      replace HOx0 := hide (HOx0.out.ext hE)
      replace HOx1 := hide (HOx1.out.ext hE)
      replace HOg0 := hide (HOg0.out.ext hE)
      have hz7 := hE.size
      replace HE := hide (HE.out.trans hE)
      clear hE
      go_wp2_with fail
      refine (toIntS_any _ _ _ xs0 _ (HI0.out.ext HE.out) (by omega)).mono ?_; rintro e w8 ⟨At5, ct5, rfl, ho, hE⟩
      replace HOt1 := hide (HOt1.out.ext hE)
      replace HOt2 := hide (HOt2.out.ext hE)
      replace HOw0 := hide (HOw0.out.ext hE)
      replace HOx0 := hide (HOx0.out.ext hE)
      replace HOx1 := hide (HOx1.out.ext hE)
      replace HOg0 := hide (HOg0.out.ext hE)
      have hz8 := hE.size
      replace HE := hide (HE.out.trans hE)
      clear hE
      have HOt5 := hide (InI.mk_ ho); clear ho
      go_wp2_with fail
      refine (eqIntS_any _ _ _ (xs0) _ _ _ (xs0) _ HOx0.out.ints HOt5.out.ints).mono ?_; rintro e w9 ⟨rfl, hE⟩
      replace HOt1 := hide (HOt1.out.ext hE)
      replace HOt2 := hide (HOt2.out.ext hE)
      replace HOw0 := hide (HOw0.out.ext hE)
      replace HOx0 := hide (HOx0.out.ext hE)
      replace HOx1 := hide (HOx1.out.ext hE)
      replace HOg0 := hide (HOg0.out.ext hE)
      replace HOt5 := hide (HOt5.out.ext hE)
      have hz9 := hE.size
      replace HE := hide (HE.out.trans hE)
      clear hE
      go_wp2_with fail
      refine (toIntS_any _ _ _ xs1 _ (HI1.out.ext HE.out) (by omega)).mono ?_; rintro e w10 ⟨At6, ct6, rfl, ho, hE⟩
      replace HOt1 := hide (HOt1.out.ext hE)
      replace HOt2 := hide (HOt2.out.ext hE)
      replace HOw0 := hide (HOw0.out.ext hE)
      replace HOx0 := hide (HOx0.out.ext hE)
      replace HOx1 := hide (HOx1.out.ext hE)
      replace HOg0 := hide (HOg0.out.ext hE)
      replace HOt5 := hide (HOt5.out.ext hE)
      have hz10 := hE.size
      replace HE := hide (HE.out.trans hE)
      clear hE
      have HOt6 := hide (InI.mk_ ho); clear ho
      go_wp2_with fail
      refine (eqIntS_any _ _ _ (xs1) _ _ _ (xs1) _ HOx1.out.ints HOt6.out.ints).mono ?_; rintro e w11 ⟨rfl, hE⟩
      replace HOt1 := hide (HOt1.out.ext hE)
      replace HOt2 := hide (HOt2.out.ext hE)
      replace HOw0 := hide (HOw0.out.ext hE)
      replace HOx0 := hide (HOx0.out.ext hE)
      replace HOx1 := hide (HOx1.out.ext hE)
      replace HOg0 := hide (HOg0.out.ext hE)
      replace HOt5 := hide (HOt5.out.ext hE)
      replace HOt6 := hide (HOt6.out.ext hE)
      have hz11 := hE.size
      replace HE := hide (HE.out.trans hE)
      clear hE
      go_wp2_with fail
      refine (markIntS_in _ _ _ (xs0) _ _ HOx0.out (by omega) (by omega)).mono ?_; rintro e w12 ⟨rfl, ho, hg⟩
      have hz12 := hg.size
      replace HOt1 := hide (HOt1.out.only hg (by omega))
      replace HOt2 := hide (HOt2.out.only hg (by omega))
      replace HOw0 := hide (HOw0.out.only hg (by omega))
      replace HOx1 := hide (HOx1.out.only hg (by omega))
      replace HOg0 := hide (HOg0.out.only hg (by omega))
      replace HOt5 := hide (HOt5.out.only hg (by omega))
      replace HOt6 := hide (HOt6.out.only hg (by omega))
      replace HE := hide (HE.out.only hg (by omega))
      replace HOx0 := hide ho; clear ho hg
      go_wp2_with fail
      refine (markIntS_in _ _ _ (xs1) _ _ HOx1.out (by omega) (by omega)).mono ?_; rintro e w13 ⟨rfl, ho, hg⟩
      have hz13 := hg.size
      replace HOt1 := hide (HOt1.out.only hg (by omega))
      replace HOt2 := hide (HOt2.out.only hg (by omega))
      replace HOw0 := hide (HOw0.out.only hg (by omega))
      replace HOx0 := hide (HOx0.out.only hg (by omega))
      replace HOg0 := hide (HOg0.out.only hg (by omega))
      replace HOt5 := hide (HOt5.out.only hg (by omega))
      replace HOt6 := hide (HOt6.out.only hg (by omega))
      replace HE := hide (HE.out.only hg (by omega))
      replace HOx1 := hide ho; clear ho hg
      go_wp2_with fail
      refine (eqIntS_any _ _ _ (pairV xs0 xs1) _ _ _ (pairV xs0 xs1) _ HOg0.out.ints HOw0.out.ints).mono ?_; rintro e w14 ⟨rfl, hE⟩
      replace HOt1 := hide (HOt1.out.ext hE)
      replace HOt2 := hide (HOt2.out.ext hE)
      replace HOw0 := hide (HOw0.out.ext hE)
      replace HOx0 := hide (HOx0.out.ext hE)
      replace HOx1 := hide (HOx1.out.ext hE)
      replace HOg0 := hide (HOg0.out.ext hE)
      replace HOt5 := hide (HOt5.out.ext hE)
      replace HOt6 := hide (HOt6.out.ext hE)
      have hz14 := hE.size
      replace HE := hide (HE.out.trans hE)
      clear hE
      go_wp2_with fail
      refine (markIntS_in _ _ _ (pairV xs0 xs1) _ _ HOg0.out (by omega) (by omega)).mono ?_; rintro e w15 ⟨rfl, ho, hg⟩
      have hz15 := hg.size
      replace HOt1 := hide (HOt1.out.only hg (by omega))
      replace HOt2 := hide (HOt2.out.only hg (by omega))
      replace HOw0 := hide (HOw0.out.only hg (by omega))
      replace HOx0 := hide (HOx0.out.only hg (by omega))
      replace HOx1 := hide (HOx1.out.only hg (by omega))
      replace HOt5 := hide (HOt5.out.only hg (by omega))
      replace HOt6 := hide (HOt6.out.only hg (by omega))
      replace HE := hide (HE.out.only hg (by omega))
      replace HOg0 := hide ho; clear ho hg
      go_wp2_with fail
      refine (heldIntS_any _ _ _ _ _ HOg0.out.ints (by omega) (by omega)).mono ?_; rintro e w' ⟨rfl, rfl⟩
      go_wp2_with fail
      refine (toIntS_any _ _ _ xs0 _ (HI0.out.ext HE.out) (by omega)).mono ?_; rintro e w16 ⟨At7, ct7, rfl, ho, hE⟩
      replace HOt1 := hide (HOt1.out.ext hE)
      replace HOt2 := hide (HOt2.out.ext hE)
      replace HOw0 := hide (HOw0.out.ext hE)
      replace HOx0 := hide (HOx0.out.ext hE)
      replace HOx1 := hide (HOx1.out.ext hE)
      replace HOg0 := hide (HOg0.out.ext hE)
      replace HOt5 := hide (HOt5.out.ext hE)
      replace HOt6 := hide (HOt6.out.ext hE)
      have hz16 := hE.size
      replace HE := hide (HE.out.trans hE)
      clear hE
      have HOt7 := hide (InI.mk_ ho); clear ho
      go_wp2_with fail
      refine (toIntS_any _ _ _ xs1 _ (HI1.out.ext HE.out) (by omega)).mono ?_; rintro e w17 ⟨At8, ct8, rfl, ho, hE⟩
      replace HOt1 := hide (HOt1.out.ext hE)
      replace HOt2 := hide (HOt2.out.ext hE)
      replace HOw0 := hide (HOw0.out.ext hE)
      replace HOx0 := hide (HOx0.out.ext hE)
      replace HOx1 := hide (HOx1.out.ext hE)
      replace HOg0 := hide (HOg0.out.ext hE)
      replace HOt5 := hide (HOt5.out.ext hE)
      replace HOt6 := hide (HOt6.out.ext hE)
      replace HOt7 := hide (HOt7.out.ext hE)
      have hz17 := hE.size
      replace HE := hide (HE.out.trans hE)
      clear hE
      have HOt8 := hide (InI.mk_ ho); clear ho
      go_wp2_with fail
      refine (iPair_any _ _ _ xs0 _ _ _ xs1 _ HOt7.out.ints HOt8.out.ints).mono ?_; rintro e w18 ⟨Ah0, ch0, rfl, ho0, hE⟩
      replace HOt1 := hide (HOt1.out.ext hE)
      replace HOt2 := hide (HOt2.out.ext hE)
      replace HOw0 := hide (HOw0.out.ext hE)
      replace HOx0 := hide (HOx0.out.ext hE)
      replace HOx1 := hide (HOx1.out.ext hE)
      replace HOg0 := hide (HOg0.out.ext hE)
      replace HOt5 := hide (HOt5.out.ext hE)
      replace HOt6 := hide (HOt6.out.ext hE)
      replace HOt7 := hide (HOt7.out.ext hE)
      replace HOt8 := hide (HOt8.out.ext hE)
      have hz18 := hE.size
      replace HE := hide (HE.out.trans hE)
      clear hE
      have HOh0 := hide (InI.mk_ ho0); clear ho0
      go_wp2_with fail
      refine (eqIntS_any _ _ _ (pairV xs0 xs1) _ _ _ (pairV xs0 xs1) _ HOh0.out.ints HOw0.out.ints).mono ?_; rintro e w19 ⟨rfl, hE⟩
      replace HOt1 := hide (HOt1.out.ext hE)
      replace HOt2 := hide (HOt2.out.ext hE)
      replace HOw0 := hide (HOw0.out.ext hE)
      replace HOx0 := hide (HOx0.out.ext hE)
      replace HOx1 := hide (HOx1.out.ext hE)
      replace HOg0 := hide (HOg0.out.ext hE)
      replace HOt5 := hide (HOt5.out.ext hE)
      replace HOt6 := hide (HOt6.out.ext hE)
      replace HOt7 := hide (HOt7.out.ext hE)
      replace HOt8 := hide (HOt8.out.ext hE)
      replace HOh0 := hide (HOh0.out.ext hE)
      have hz19 := hE.size
      replace HE := hide (HE.out.trans hE)
      clear hE
      go_wp2_with fail
      refine (heldIntS_any _ _ _ _ _ HOg0.out.ints (by omega) (by omega)).mono ?_; rintro e w' ⟨rfl, rfl⟩
      go_wp2
      go_ret
      exact ⟨by first | rfl | simp, HE.out⟩
    · go_enter Try.func11, Try.ntmps11
      go_wp2
      go_ret
      exact ⟨rfl, Ext.refl _⟩
  · go_enter Try.func11, Try.ntmps11
    go_wp2
    go_ret
    exact ⟨rfl, Ext.refl _⟩
-- law SwissPlay
theorem law_SwissPlay (s0 : Int) (A0 : Option Addr) (n0 c0 : Nat) (xs0 : List Int) (a1 : Int) (w : World) (hi0 : I64 s0) (h0 : Ints w A0 n0 c0 xs0) (hi1 : I64 a1) :
    Calls Try.prog 12 #[.agg #[.int .i64 s0, .slice A0 n0 c0], .int .i64 a1] w fun e w' => e = .returned (.bool true) ∧ Ext w w' := by
  have hl0 := h0.len; subst hl0
  have HI0 := hide h0; clear h0
  by_cases hs0 : (xs0.length : Int) ≤ 1048576
  · skip
    have hb0 : xs0.length ≤ 1048576 := by omega
    have hln := play_len s0 xs0 a1
    go_enter Try.func12, Try.ntmps12
    go_wp2_with fail
    obtain ⟨w1, hW⟩ : ∃ W : World, W = w.alloc (.cells #[.int .i64 s0, .slice A0 xs0.length c0] 51) := ⟨_, rfl⟩
    rw [← hW]
    have hE : Ext w w1 := by rw [hW]; exact Ext.one _ _
    have Cb0 : w1.cell? ⟨w.heap.size, 0, none⟩ = some (.int .i64 s0) := by rw [hW]; simp
    have Cb1 : w1.cell? ⟨w.heap.size, 1, none⟩ = some (.slice A0 xs0.length c0) := by rw [hW]; simp
    have hzq1 : w.heap.size + 1 ≤ w1.heap.size := by rw [hW]; simp
    clear hW
    have hz1 := hE.size
    have HE := hide hE
    clear hE
    have HSZ := hide (szLeft_yes (n := xs0.length) (left := 1048576) (by omega))
    go_wp2_with fail
    refine (szTour_any _ _ _ _ _ _ (by have := HI0.out.le; have := HI0.out.max; omega) (by omega) (by omega)).mono ?_; rw [HSZ.out]; rintro e w2 ⟨rfl, hE⟩
    replace Cb0 := hE.get Cb0; replace Cb1 := hE.get Cb1
    have hz2 := hE.size
    replace HE := hide (HE.out.trans hE)
    clear hE
    clear HSZ
    go_wp2_with fail
    refine (toTour_any s0 _ _ _ xs0 _ (HI0.out.ext HE.out) (by omega)).mono ?_; rintro e w3 ⟨At1, ct1, rfl, ho, hE⟩
    replace Cb0 := hE.get Cb0; replace Cb1 := hE.get Cb1
    have hz3 := hE.size
    replace HE := hide (HE.out.trans hE)
    clear hE
    have HOt1 := hide (InI.mk_ ho); clear ho
    go_wp2_with fail
    refine (sPlay_any s0 _ _ _ xs0 a1 _ hi0 HOt1.out.ints).mono ?_; rintro e w4 ⟨midw, Aw0, cw0, Aw1, cw1, rfl, ho0, ho1, hmwa, hmwb, hE⟩
    replace HOt1 := hide (HOt1.out.ext hE)
    replace Cb0 := hE.get Cb0; replace Cb1 := hE.get Cb1
    have hz4 := hE.size
    replace HE := hide (HE.out.trans hE)
    clear hE
    have HOw0 := hide ho0; clear ho0
    have HOw1 := hide ho1; clear ho1
    go_wp2_with fail
    refine (toTour_any s0 _ _ _ xs0 _ (HI0.out.ext HE.out) (by omega)).mono ?_; rintro e w5 ⟨Ax0, cx0, rfl, ho, hE⟩
    replace HOt1 := hide (HOt1.out.ext hE)
    replace HOw0 := hide (HOw0.out.ext hE)
    replace HOw1 := hide (HOw1.out.ext hE)
    replace Cb0 := hE.get Cb0; replace Cb1 := hE.get Cb1
    have hz5 := hE.size
    replace HE := hide (HE.out.trans hE)
    clear hE
    have HOx0 := hide (InI.mk_ ho); clear ho
    go_wp2_with fail
    obtain ⟨w6, hW⟩ : ∃ W : World, W = w5.alloc (.cells #[.int .i64 s0, .slice Ax0 xs0.length cx0] 33) := ⟨_, rfl⟩
    rw [← hW]
    have hE : Ext w5 w6 := by rw [hW]; exact Ext.one _ _
    have Cx00 : w6.cell? ⟨w5.heap.size, 0, none⟩ = some (.int .i64 s0) := by rw [hW]; simp
    have Cx01 : w6.cell? ⟨w5.heap.size, 1, none⟩ = some (.slice Ax0 xs0.length cx0) := by rw [hW]; simp
    have hzq6 : w5.heap.size + 1 ≤ w6.heap.size := by rw [hW]; simp
    clear hW
    replace HOt1 := hide (HOt1.out.ext hE)
    replace HOw0 := hide (HOw0.out.ext hE)
    replace HOw1 := hide (HOw1.out.ext hE)
    replace HOx0 := hide (HOx0.out.ext hE)
    replace Cb0 := hE.get Cb0; replace Cb1 := hE.get Cb1
    have hz6 := hE.size
    replace HE := hide (HE.out.trans hE)
    clear hE
    go_wp2_with fail
    refine (iPlay_any s0 _ _ _ xs0 a1 _ hi0 HOx0.out.ints).mono ?_; rintro e w7 ⟨midg, Ag0, cg0, Ag1, cg1, rfl, ho0, ho1, hmga, hmgb, hE⟩
    replace HOt1 := hide (HOt1.out.ext hE)
    replace HOw0 := hide (HOw0.out.ext hE)
    replace HOw1 := hide (HOw1.out.ext hE)
    replace HOx0 := hide (HOx0.out.ext hE)
    replace Cb0 := hE.get Cb0; replace Cb1 := hE.get Cb1
    replace Cx00 := hE.get Cx00; replace Cx01 := hE.get Cx01
    have hz7 := hE.size
    replace HE := hide (HE.out.trans hE)
    clear hE
    have HOg0 := hide ho0; clear ho0
    have HOg1 := hide ho1; clear ho1
    go_wp2_with fail
    refine (eqIntS_any _ _ _ (playPts s0 xs0 a1) _ _ _ (playPts s0 xs0 a1) _ HOg0.out.ints HOw0.out.ints).mono ?_; rintro e w8 ⟨rfl, hE⟩
    replace HOt1 := hide (HOt1.out.ext hE)
    replace HOw0 := hide (HOw0.out.ext hE)
    replace HOw1 := hide (HOw1.out.ext hE)
    replace HOx0 := hide (HOx0.out.ext hE)
    replace HOg0 := hide (HOg0.out.ext hE)
    replace HOg1 := hide (HOg1.out.ext hE)
    replace Cb0 := hE.get Cb0; replace Cb1 := hE.get Cb1
    replace Cx00 := hE.get Cx00; replace Cx01 := hE.get Cx01
    have hz8 := hE.size
    replace HE := hide (HE.out.trans hE)
    clear hE
    go_wp2_with fail
    refine (eqIntSS_any _ _ _ (playRds s0 xs0 a1) _ _ _ (playRds s0 xs0 a1) _ HOg1.out.grid HOw1.out.grid).mono ?_; rintro e w9 ⟨rfl, hE⟩
    replace HOt1 := hide (HOt1.out.ext hE)
    replace HOw0 := hide (HOw0.out.ext hE)
    replace HOw1 := hide (HOw1.out.ext hE)
    replace HOx0 := hide (HOx0.out.ext hE)
    replace HOg0 := hide (HOg0.out.ext hE)
    replace HOg1 := hide (HOg1.out.ext hE)
    replace Cb0 := hE.get Cb0; replace Cb1 := hE.get Cb1
    replace Cx00 := hE.get Cx00; replace Cx01 := hE.get Cx01
    have hz9 := hE.size
    replace HE := hide (HE.out.trans hE)
    clear hE
    go_wp2_with fail
    go_region_held3 (fun w' => w'.cell? ⟨w.heap.size, 0, none⟩ = some (.int .i64 s0) ∧ w'.cell? ⟨w.heap.size, 1, none⟩ = some (.slice A0 xs0.length c0) ∧ w'.cell? ⟨w5.heap.size, 0, none⟩ = some (.int .i64 s0) ∧ w'.cell? ⟨w5.heap.size, 1, none⟩ = some (.slice Ax0 xs0.length cx0))
      (first | exact ⟨Cb0, Cb1, Cx00, Cx01⟩ | exact ⟨hEa.get Cb0, hEa.get Cb1, hEa.get Cx00, hEa.get Cx01⟩ | exact ⟨hEb.get (hEa.get Cb0), hEb.get (hEa.get Cb1), hEb.get (hEa.get Cx00), hEb.get (hEa.get Cx01)⟩)
      (first | (go_at_call 44; refine (toTour_any s0 _ _ _ xs0 _ (HI0.out.ext HE.out.drew) (by omega)).mono ?_; rintro e w10 ⟨At, ct, rfl, ho, hEa⟩) | (go_at_call 46; refine (eqTour_any _ _ _ _ (xs0) _ _ _ _ xs0 _ (HOx0.out.ints.ext ((Ext.refl _).drew.trans hEa)) ho.ints).mono ?_; rintro e w11 ⟨rfl, hEb⟩))
    clear ho
    have hE : Ext w9 w10 := (Ext.refl _).drew.trans hEa
    clear hEa
    replace HOt1 := hide (HOt1.out.ext hE)
    replace HOw0 := hide (HOw0.out.ext hE)
    replace HOw1 := hide (HOw1.out.ext hE)
    replace HOx0 := hide (HOx0.out.ext hE)
    replace HOg0 := hide (HOg0.out.ext hE)
    replace HOg1 := hide (HOg1.out.ext hE)
    replace Cb0 := hE.get Cb0; replace Cb1 := hE.get Cb1
    replace Cx00 := hE.get Cx00; replace Cx01 := hE.get Cx01
    have hz10 := hE.size
    replace HE := hide (HE.out.trans hE)
    clear hE
    replace HOt1 := hide (HOt1.out.ext hEb)
    replace HOw0 := hide (HOw0.out.ext hEb)
    replace HOw1 := hide (HOw1.out.ext hEb)
    replace HOx0 := hide (HOx0.out.ext hEb)
    replace HOg0 := hide (HOg0.out.ext hEb)
    replace HOg1 := hide (HOg1.out.ext hEb)
    replace Cb0 := hEb.get Cb0; replace Cb1 := hEb.get Cb1
    replace Cx00 := hEb.get Cx00; replace Cx01 := hEb.get Cx01
    have hz11 := hEb.size
    replace HE := hide (HE.out.trans hEb)
    clear hEb
    go_wp2_with fail
    refine (markTour_in _ _ _ _ (xs0) _ _ HOx0.out (by omega) (by omega)).mono ?_; rintro e w12 ⟨rfl, ho, hg⟩
    have hz12 := hg.size
    replace HOt1 := hide (HOt1.out.only hg (by omega))
    replace HOw0 := hide (HOw0.out.only hg (by omega))
    replace HOw1 := hide (HOw1.out.only hg (by omega))
    replace HOg0 := hide (HOg0.out.only hg (by omega))
    replace HOg1 := hide (HOg1.out.only hg (by omega))
    replace HE := hide (HE.out.only hg (by omega))
    replace Cb0 := hg.get Cb0 (by omega); replace Cb1 := hg.get Cb1 (by omega)
    replace Cx00 := hg.get Cx00 (by omega); replace Cx01 := hg.get Cx01 (by omega)
    replace HOx0 := hide ho; clear ho hg
    go_wp2_with fail
    refine (eqIntS_any _ _ _ (playPts s0 xs0 a1) _ _ _ (playPts s0 xs0 a1) _ HOg0.out.ints HOw0.out.ints).mono ?_; rintro e w13 ⟨rfl, hE⟩
    replace HOt1 := hide (HOt1.out.ext hE)
    replace HOw0 := hide (HOw0.out.ext hE)
    replace HOw1 := hide (HOw1.out.ext hE)
    replace HOx0 := hide (HOx0.out.ext hE)
    replace HOg0 := hide (HOg0.out.ext hE)
    replace HOg1 := hide (HOg1.out.ext hE)
    replace Cb0 := hE.get Cb0; replace Cb1 := hE.get Cb1
    replace Cx00 := hE.get Cx00; replace Cx01 := hE.get Cx01
    have hz13 := hE.size
    replace HE := hide (HE.out.trans hE)
    clear hE
    go_wp2_with fail
    refine (eqIntSS_any _ _ _ (playRds s0 xs0 a1) _ _ _ (playRds s0 xs0 a1) _ HOg1.out.grid HOw1.out.grid).mono ?_; rintro e w14 ⟨rfl, hE⟩
    replace HOt1 := hide (HOt1.out.ext hE)
    replace HOw0 := hide (HOw0.out.ext hE)
    replace HOw1 := hide (HOw1.out.ext hE)
    replace HOx0 := hide (HOx0.out.ext hE)
    replace HOg0 := hide (HOg0.out.ext hE)
    replace HOg1 := hide (HOg1.out.ext hE)
    replace Cb0 := hE.get Cb0; replace Cb1 := hE.get Cb1
    replace Cx00 := hE.get Cx00; replace Cx01 := hE.get Cx01
    have hz14 := hE.size
    replace HE := hide (HE.out.trans hE)
    clear hE
    go_wp2_with fail
    refine (markIntS_in _ _ _ (playPts s0 xs0 a1) _ _ HOg0.out (by omega) (by omega)).mono ?_; rintro e w15 ⟨rfl, ho, hg⟩
    have hz15 := hg.size
    replace HOt1 := hide (HOt1.out.only hg (by omega))
    replace HOw0 := hide (HOw0.out.only hg (by omega))
    replace HOw1 := hide (HOw1.out.only hg (by omega))
    replace HOx0 := hide (HOx0.out.only hg (by omega))
    replace HOg1 := hide (HOg1.out.only hg (by omega))
    replace HE := hide (HE.out.only hg (by omega))
    replace Cb0 := hg.get Cb0 (by omega); replace Cb1 := hg.get Cb1 (by omega)
    replace Cx00 := hg.get Cx00 (by omega); replace Cx01 := hg.get Cx01 (by omega)
    replace HOg0 := hide ho; clear ho hg
    go_wp2_with fail
    refine (markIntSS_in _ _ _ (playRds s0 xs0 a1) _ _ HOg1.out (by omega) (by omega)).mono ?_; rintro e w16 ⟨rfl, ho, hg⟩
    have hz16 := hg.size
    replace HOt1 := hide (HOt1.out.only hg (by omega))
    replace HOw0 := hide (HOw0.out.only hg (by omega))
    replace HOw1 := hide (HOw1.out.only hg (by omega))
    replace HOx0 := hide (HOx0.out.only hg (by omega))
    replace HOg0 := hide (HOg0.out.only hg (by omega))
    replace HE := hide (HE.out.only hg (by omega))
    replace Cb0 := hg.get Cb0 (by omega); replace Cb1 := hg.get Cb1 (by omega)
    replace Cx00 := hg.get Cx00 (by omega); replace Cx01 := hg.get Cx01 (by omega)
    replace HOg1 := hide ho; clear ho hg
    go_wp2_with fail
    refine (heldIntS_any _ _ _ _ _ HOg0.out.ints (by omega) (by omega)).mono ?_; rintro e w' ⟨rfl, rfl⟩
    go_wp2_with fail
    refine (heldIntSS_any _ _ _ _ _ _ HOg1.out.grid (by omega) (by omega)).mono ?_; rintro e w' ⟨rfl, rfl⟩
    go_wp2_with fail
    refine (toTour_any s0 _ _ _ xs0 _ (HI0.out.ext HE.out) (by omega)).mono ?_; rintro e w17 ⟨At3, ct3, rfl, ho, hE⟩
    replace HOt1 := hide (HOt1.out.ext hE)
    replace HOw0 := hide (HOw0.out.ext hE)
    replace HOw1 := hide (HOw1.out.ext hE)
    replace HOx0 := hide (HOx0.out.ext hE)
    replace HOg0 := hide (HOg0.out.ext hE)
    replace HOg1 := hide (HOg1.out.ext hE)
    replace Cb0 := hE.get Cb0; replace Cb1 := hE.get Cb1
    replace Cx00 := hE.get Cx00; replace Cx01 := hE.get Cx01
    have hz17 := hE.size
    replace HE := hide (HE.out.trans hE)
    clear hE
    have HOt3 := hide (InI.mk_ ho); clear ho
    go_wp2_with fail
    refine (iPlay_any s0 _ _ _ xs0 a1 _ hi0 HOt3.out.ints).mono ?_; rintro e w18 ⟨midh, Ah0, ch0, Ah1, ch1, rfl, ho0, ho1, hmha, hmhb, hE⟩
    replace HOt1 := hide (HOt1.out.ext hE)
    replace HOw0 := hide (HOw0.out.ext hE)
    replace HOw1 := hide (HOw1.out.ext hE)
    replace HOx0 := hide (HOx0.out.ext hE)
    replace HOg0 := hide (HOg0.out.ext hE)
    replace HOg1 := hide (HOg1.out.ext hE)
    replace HOt3 := hide (HOt3.out.ext hE)
    replace Cb0 := hE.get Cb0; replace Cb1 := hE.get Cb1
    replace Cx00 := hE.get Cx00; replace Cx01 := hE.get Cx01
    have hz18 := hE.size
    replace HE := hide (HE.out.trans hE)
    clear hE
    have HOh0 := hide ho0; clear ho0
    have HOh1 := hide ho1; clear ho1
    go_wp2_with fail
    refine (eqIntS_any _ _ _ (playPts s0 xs0 a1) _ _ _ (playPts s0 xs0 a1) _ HOh0.out.ints HOw0.out.ints).mono ?_; rintro e w19 ⟨rfl, hE⟩
    replace HOt1 := hide (HOt1.out.ext hE)
    replace HOw0 := hide (HOw0.out.ext hE)
    replace HOw1 := hide (HOw1.out.ext hE)
    replace HOx0 := hide (HOx0.out.ext hE)
    replace HOg0 := hide (HOg0.out.ext hE)
    replace HOg1 := hide (HOg1.out.ext hE)
    replace HOt3 := hide (HOt3.out.ext hE)
    replace HOh0 := hide (HOh0.out.ext hE)
    replace HOh1 := hide (HOh1.out.ext hE)
    replace Cb0 := hE.get Cb0; replace Cb1 := hE.get Cb1
    replace Cx00 := hE.get Cx00; replace Cx01 := hE.get Cx01
    have hz19 := hE.size
    replace HE := hide (HE.out.trans hE)
    clear hE
    go_wp2_with fail
    refine (eqIntSS_any _ _ _ (playRds s0 xs0 a1) _ _ _ (playRds s0 xs0 a1) _ HOh1.out.grid HOw1.out.grid).mono ?_; rintro e w20 ⟨rfl, hE⟩
    replace HOt1 := hide (HOt1.out.ext hE)
    replace HOw0 := hide (HOw0.out.ext hE)
    replace HOw1 := hide (HOw1.out.ext hE)
    replace HOx0 := hide (HOx0.out.ext hE)
    replace HOg0 := hide (HOg0.out.ext hE)
    replace HOg1 := hide (HOg1.out.ext hE)
    replace HOt3 := hide (HOt3.out.ext hE)
    replace HOh0 := hide (HOh0.out.ext hE)
    replace HOh1 := hide (HOh1.out.ext hE)
    replace Cb0 := hE.get Cb0; replace Cb1 := hE.get Cb1
    replace Cx00 := hE.get Cx00; replace Cx01 := hE.get Cx01
    have hz20 := hE.size
    replace HE := hide (HE.out.trans hE)
    clear hE
    go_wp2_with fail
    refine (heldIntS_any _ _ _ _ _ HOg0.out.ints (by omega) (by omega)).mono ?_; rintro e w' ⟨rfl, rfl⟩
    go_wp2_with fail
    refine (heldIntSS_any _ _ _ _ _ _ HOg1.out.grid (by omega) (by omega)).mono ?_; rintro e w' ⟨rfl, rfl⟩
    go_wp2
    go_ret
    exact ⟨by first | rfl | simp, HE.out⟩
  · go_enter Try.func12, Try.ntmps12
    go_wp2_with fail
    obtain ⟨w1, hW⟩ : ∃ W : World, W = w.alloc (.cells #[.int .i64 s0, .slice A0 xs0.length c0] 51) := ⟨_, rfl⟩
    rw [← hW]
    have hE : Ext w w1 := by rw [hW]; exact Ext.one _ _
    have Cb0 : w1.cell? ⟨w.heap.size, 0, none⟩ = some (.int .i64 s0) := by rw [hW]; simp
    have Cb1 : w1.cell? ⟨w.heap.size, 1, none⟩ = some (.slice A0 xs0.length c0) := by rw [hW]; simp
    have hzq1 : w.heap.size + 1 ≤ w1.heap.size := by rw [hW]; simp
    clear hW
    have hz1 := hE.size
    have HE := hide hE
    clear hE
    have HSZ := hide (szLeft_no (n := xs0.length) (left := 1048576) (by omega))
    go_wp2_with fail
    refine (szTour_any _ _ _ _ _ _ (by have := HI0.out.le; have := HI0.out.max; omega) (by omega) (by omega)).mono ?_; rw [HSZ.out]; rintro e w2 ⟨rfl, hE⟩
    replace Cb0 := hE.get Cb0; replace Cb1 := hE.get Cb1
    have hz2 := hE.size
    replace HE := hide (HE.out.trans hE)
    clear hE
    clear HSZ
    go_wp2
    go_ret
    exact ⟨rfl, HE.out⟩

end Go.Proofs.Ytbaljgdepicigaa
