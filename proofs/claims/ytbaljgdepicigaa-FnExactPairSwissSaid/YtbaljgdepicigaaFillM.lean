/-
  The laws on the first pairing and on play.
-/
import Derived.Laws.ShiftsVar
import Derived.Test.YtbaljgdepicigaaBase
import Derived.Test.YtbaljgdepicigaaMathA
import Derived.Test.YtbaljgdepicigaaMathD
import Derived.Test.YtbaljgdepicigaaLib
import Derived.Test.YtbaljgdepicigaaAid
import Derived.Test.YtbaljgdepicigaaStep
import Derived.Test.YtbaljgdepicigaaGrid
import Derived.Test.YtbaljgdepicigaaLibF
import Derived.Test.YtbaljgdepicigaaMathB
import Derived.Test.YtbaljgdepicigaaMathU
import Derived.Test.YtbaljgdepicigaaMathS
import Derived.Test.YtbaljgdepicigaaMathP
import Derived.Test.YtbaljgdepicigaaFillH
import Derived.Test.YtbaljgdepicigaaFillI
namespace Go.Proofs.Ytbaljgdepicigaa
open Go.RowKit
set_option linter.unusedVariables false

-- law PairSwiss
theorem law_PairSwiss (A0 : Option Addr) (n0 c0 : Nat) (xs0 : List Int) (A1 : Option Addr) (n1 c1 : Nat) (xs1 : List Int) (w : World) (h0 : Ints w A0 n0 c0 xs0) (h1 : Ints w A1 n1 c1 xs1) :
    Calls Try.prog 11 #[.slice A0 n0 c0, .slice A1 n1 c1] w fun e w' => e = .returned (.bool true) ∧ Ext w w' := by
  have hl0 := h0.len; subst hl0
  have HI0 := hide h0; clear h0
  have hl1 := h1.len; subst hl1
  have HI1 := hide h1; clear h1
  by_cases hs0 : xs0.length ≤ 1048576
  · skip
    by_cases hs1 : xs1.length ≤ 1048576
    · skip
      have hln := pairV_len xs0 xs1
      go_enter Try.func11, Try.ntmps11
      go_wp2_with fail
      refine (toIntS_any _ _ _ xs0 _ HI0.out (by omega)).mono ?_; rintro e w1 ⟨At1, ct1, rfl, ho, hE⟩
      have hz1 := hE.size
      have HE := hide hE
      clear hE
      have HOt1 := hide (InI.mk_ ho); clear ho
      go_wp2_with fail
      refine (toIntS_any _ _ _ xs1 _ (HI1.out.ext HE.out) (by omega)).mono ?_; rintro e w2 ⟨At2, ct2, rfl, ho, hE⟩
      replace HOt1 := hide (HOt1.out.ext hE)
      have hz2 := hE.size
      replace HE := hide (HE.out.trans hE)
      clear hE
      have HOt2 := hide (InI.mk_ ho); clear ho
      go_wp2_with fail
      refine (sPair_any _ _ _ xs0 _ _ _ xs1 _ HOt1.out.ints HOt2.out.ints).mono ?_; rintro e w3 ⟨Aw0, cw0, rfl, ho0, hE⟩
      replace HOt1 := hide (HOt1.out.ext hE)
      replace HOt2 := hide (HOt2.out.ext hE)
      have hz3 := hE.size
      replace HE := hide (HE.out.trans hE)
      clear hE
      have HOw0 := hide (InI.mk_ ho0); clear ho0
      go_wp2_with fail
      refine (toIntS_any _ _ _ xs0 _ (HI0.out.ext HE.out) (by omega)).mono ?_; rintro e w4 ⟨Ax0, cx0, rfl, ho, hE⟩
      replace HOt1 := hide (HOt1.out.ext hE)
      replace HOt2 := hide (HOt2.out.ext hE)
      replace HOw0 := hide (HOw0.out.ext hE)
      have hz4 := hE.size
      replace HE := hide (HE.out.trans hE)
      clear hE
      have HOx0 := hide (InI.mk_ ho); clear ho
      go_wp2_with fail
      refine (toIntS_any _ _ _ xs1 _ (HI1.out.ext HE.out) (by omega)).mono ?_; rintro e w5 ⟨Ax1, cx1, rfl, ho, hE⟩
      replace HOt1 := hide (HOt1.out.ext hE)
      replace HOt2 := hide (HOt2.out.ext hE)
      replace HOw0 := hide (HOw0.out.ext hE)
      replace HOx0 := hide (HOx0.out.ext hE)
      have hz5 := hE.size
      replace HE := hide (HE.out.trans hE)
      clear hE
      have HOx1 := hide (InI.mk_ ho); clear ho
      go_wp2_with fail
      refine (iPair_any _ _ _ xs0 _ _ _ xs1 _ HOx0.out.ints HOx1.out.ints).mono ?_; rintro e w6 ⟨Ag0, cg0, rfl, ho0, hE⟩
      replace HOt1 := hide (HOt1.out.ext hE)
      replace HOt2 := hide (HOt2.out.ext hE)
      replace HOw0 := hide (HOw0.out.ext hE)
      replace HOx0 := hide (HOx0.out.ext hE)
      replace HOx1 := hide (HOx1.out.ext hE)
      have hz6 := hE.size
      replace HE := hide (HE.out.trans hE)
      clear hE
      have HOg0 := hide (InI.mk_ ho0); clear ho0
      go_wp2_with fail
      refine (eqIntS_any _ _ _ (pairV xs0 xs1) _ _ _ (pairV xs0 xs1) _ HOg0.out.ints HOw0.out.ints).mono ?_; rintro e w7 ⟨rfl, hE⟩
      replace HOt1 := hide (HOt1.out.ext hE)
      replace HOt2 := hide (HOt2.out.ext hE)
      replace HOw0 := hide (HOw0.out.ext hE)
      replace HOx0 := hide (HOx0.out.ext hE)
      replace HOx1 := hide (HOx1.out.ext hE)
      replace HOg0 := hide (HOg0.out.ext hE)
      have hz7 := hE.size
      replace HE := hide (HE.out.trans hE)
      clear hE
      go_wp2_with fail
      refine (toIntS_any _ _ _ xs0 _ (HI0.out.ext HE.out) (by omega)).mono ?_; rintro e w8 ⟨At5, ct5, rfl, ho, hE⟩
      replace HOt1 := hide (HOt1.out.ext hE)
      replace HOt2 := hide (HOt2.out.ext hE)
      replace HOw0 := hide (HOw0.out.ext hE)
      replace HOx0 := hide (HOx0.out.ext hE)
      replace HOx1 := hide (HOx1.out.ext hE)
      replace HOg0 := hide (HOg0.out.ext hE)
      have hz8 := hE.size
      replace HE := hide (HE.out.trans hE)
      clear hE
      have HOt5 := hide (InI.mk_ ho); clear ho
      go_wp2_with fail
      refine (eqIntS_any _ _ _ (xs0) _ _ _ (xs0) _ HOx0.out.ints HOt5.out.ints).mono ?_; rintro e w9 ⟨rfl, hE⟩
      replace HOt1 := hide (HOt1.out.ext hE)
      replace HOt2 := hide (HOt2.out.ext hE)
      replace HOw0 := hide (HOw0.out.ext hE)
      replace HOx0 := hide (HOx0.out.ext hE)
      replace HOx1 := hide (HOx1.out.ext hE)
      replace HOg0 := hide (HOg0.out.ext hE)
      replace HOt5 := hide (HOt5.out.ext hE)
      have hz9 := hE.size
      replace HE := hide (HE.out.trans hE)
      clear hE
      go_wp2_with fail
      refine (toIntS_any _ _ _ xs1 _ (HI1.out.ext HE.out) (by omega)).mono ?_; rintro e w10 ⟨At6, ct6, rfl, ho, hE⟩
      replace HOt1 := hide (HOt1.out.ext hE)
      replace HOt2 := hide (HOt2.out.ext hE)
      replace HOw0 := hide (HOw0.out.ext hE)
      replace HOx0 := hide (HOx0.out.ext hE)
      replace HOx1 := hide (HOx1.out.ext hE)
      replace HOg0 := hide (HOg0.out.ext hE)
      replace HOt5 := hide (HOt5.out.ext hE)
      have hz10 := hE.size
      replace HE := hide (HE.out.trans hE)
      clear hE
      have HOt6 := hide (InI.mk_ ho); clear ho
      go_wp2_with fail
      refine (eqIntS_any _ _ _ (xs1) _ _ _ (xs1) _ HOx1.out.ints HOt6.out.ints).mono ?_; rintro e w11 ⟨rfl, hE⟩
      replace HOt1 := hide (HOt1.out.ext hE)
      replace HOt2 := hide (HOt2.out.ext hE)
      replace HOw0 := hide (HOw0.out.ext hE)
      replace HOx0 := hide (HOx0.out.ext hE)
      replace HOx1 := hide (HOx1.out.ext hE)
      replace HOg0 := hide (HOg0.out.ext hE)
      replace HOt5 := hide (HOt5.out.ext hE)
      replace HOt6 := hide (HOt6.out.ext hE)
      have hz11 := hE.size
      replace HE := hide (HE.out.trans hE)
      clear hE
      go_wp2_with fail
      refine (markIntS_in _ _ _ (xs0) _ _ HOx0.out (by omega) (by omega)).mono ?_; rintro e w12 ⟨rfl, ho, hg⟩
      have hz12 := hg.size
      replace HOt1 := hide (HOt1.out.only hg (by omega))
      replace HOt2 := hide (HOt2.out.only hg (by omega))
      replace HOw0 := hide (HOw0.out.only hg (by omega))
      replace HOx1 := hide (HOx1.out.only hg (by omega))
      replace HOg0 := hide (HOg0.out.only hg (by omega))
      replace HOt5 := hide (HOt5.out.only hg (by omega))
      replace HOt6 := hide (HOt6.out.only hg (by omega))
      replace HE := hide (HE.out.only hg (by omega))
      replace HOx0 := hide ho; clear ho hg
      go_wp2_with fail
      refine (markIntS_in _ _ _ (xs1) _ _ HOx1.out (by omega) (by omega)).mono ?_; rintro e w13 ⟨rfl, ho, hg⟩
      have hz13 := hg.size
      replace HOt1 := hide (HOt1.out.only hg (by omega))
      replace HOt2 := hide (HOt2.out.only hg (by omega))
      replace HOw0 := hide (HOw0.out.only hg (by omega))
      replace HOx0 := hide (HOx0.out.only hg (by omega))
      replace HOg0 := hide (HOg0.out.only hg (by omega))
      replace HOt5 := hide (HOt5.out.only hg (by omega))
      replace HOt6 := hide (HOt6.out.only hg (by omega))
      replace HE := hide (HE.out.only hg (by omega))
      replace HOx1 := hide ho; clear ho hg
      go_wp2_with fail
      refine (eqIntS_any _ _ _ (pairV xs0 xs1) _ _ _ (pairV xs0 xs1) _ HOg0.out.ints HOw0.out.ints).mono ?_; rintro e w14 ⟨rfl, hE⟩
      replace HOt1 := hide (HOt1.out.ext hE)
      replace HOt2 := hide (HOt2.out.ext hE)
      replace HOw0 := hide (HOw0.out.ext hE)
      replace HOx0 := hide (HOx0.out.ext hE)
      replace HOx1 := hide (HOx1.out.ext hE)
      replace HOg0 := hide (HOg0.out.ext hE)
      replace HOt5 := hide (HOt5.out.ext hE)
      replace HOt6 := hide (HOt6.out.ext hE)
      have hz14 := hE.size
      replace HE := hide (HE.out.trans hE)
      clear hE
      go_wp2_with fail
      refine (markIntS_in _ _ _ (pairV xs0 xs1) _ _ HOg0.out (by omega) (by omega)).mono ?_; rintro e w15 ⟨rfl, ho, hg⟩
      have hz15 := hg.size
      replace HOt1 := hide (HOt1.out.only hg (by omega))
      replace HOt2 := hide (HOt2.out.only hg (by omega))
      replace HOw0 := hide (HOw0.out.only hg (by omega))
      replace HOx0 := hide (HOx0.out.only hg (by omega))
      replace HOx1 := hide (HOx1.out.only hg (by omega))
      replace HOt5 := hide (HOt5.out.only hg (by omega))
      replace HOt6 := hide (HOt6.out.only hg (by omega))
      replace HE := hide (HE.out.only hg (by omega))
      replace HOg0 := hide ho; clear ho hg
      go_wp2_with fail
      refine (heldIntS_any _ _ _ _ _ HOg0.out.ints (by omega) (by omega)).mono ?_; rintro e w' ⟨rfl, rfl⟩
      go_wp2_with fail
      refine (toIntS_any _ _ _ xs0 _ (HI0.out.ext HE.out) (by omega)).mono ?_; rintro e w16 ⟨At7, ct7, rfl, ho, hE⟩
      replace HOt1 := hide (HOt1.out.ext hE)
      replace HOt2 := hide (HOt2.out.ext hE)
      replace HOw0 := hide (HOw0.out.ext hE)
      replace HOx0 := hide (HOx0.out.ext hE)
      replace HOx1 := hide (HOx1.out.ext hE)
      replace HOg0 := hide (HOg0.out.ext hE)
      replace HOt5 := hide (HOt5.out.ext hE)
      replace HOt6 := hide (HOt6.out.ext hE)
      have hz16 := hE.size
      replace HE := hide (HE.out.trans hE)
      clear hE
      have HOt7 := hide (InI.mk_ ho); clear ho
      go_wp2_with fail
      refine (toIntS_any _ _ _ xs1 _ (HI1.out.ext HE.out) (by omega)).mono ?_; rintro e w17 ⟨At8, ct8, rfl, ho, hE⟩
      replace HOt1 := hide (HOt1.out.ext hE)
      replace HOt2 := hide (HOt2.out.ext hE)
      replace HOw0 := hide (HOw0.out.ext hE)
      replace HOx0 := hide (HOx0.out.ext hE)
      replace HOx1 := hide (HOx1.out.ext hE)
      replace HOg0 := hide (HOg0.out.ext hE)
      replace HOt5 := hide (HOt5.out.ext hE)
      replace HOt6 := hide (HOt6.out.ext hE)
      replace HOt7 := hide (HOt7.out.ext hE)
      have hz17 := hE.size
      replace HE := hide (HE.out.trans hE)
      clear hE
      have HOt8 := hide (InI.mk_ ho); clear ho
      go_wp2_with fail
      refine (iPair_any _ _ _ xs0 _ _ _ xs1 _ HOt7.out.ints HOt8.out.ints).mono ?_; rintro e w18 ⟨Ah0, ch0, rfl, ho0, hE⟩
      replace HOt1 := hide (HOt1.out.ext hE)
      replace HOt2 := hide (HOt2.out.ext hE)
      replace HOw0 := hide (HOw0.out.ext hE)
      replace HOx0 := hide (HOx0.out.ext hE)
      replace HOx1 := hide (HOx1.out.ext hE)
      replace HOg0 := hide (HOg0.out.ext hE)
      replace HOt5 := hide (HOt5.out.ext hE)
      replace HOt6 := hide (HOt6.out.ext hE)
      replace HOt7 := hide (HOt7.out.ext hE)
      replace HOt8 := hide (HOt8.out.ext hE)
      have hz18 := hE.size
      replace HE := hide (HE.out.trans hE)
      clear hE
      have HOh0 := hide (InI.mk_ ho0); clear ho0
      go_wp2_with fail
      refine (eqIntS_any _ _ _ (pairV xs0 xs1) _ _ _ (pairV xs0 xs1) _ HOh0.out.ints HOw0.out.ints).mono ?_; rintro e w19 ⟨rfl, hE⟩
      replace HOt1 := hide (HOt1.out.ext hE)
      replace HOt2 := hide (HOt2.out.ext hE)
      replace HOw0 := hide (HOw0.out.ext hE)
      replace HOx0 := hide (HOx0.out.ext hE)
      replace HOx1 := hide (HOx1.out.ext hE)
      replace HOg0 := hide (HOg0.out.ext hE)
      replace HOt5 := hide (HOt5.out.ext hE)
      replace HOt6 := hide (HOt6.out.ext hE)
      replace HOt7 := hide (HOt7.out.ext hE)
      replace HOt8 := hide (HOt8.out.ext hE)
      replace HOh0 := hide (HOh0.out.ext hE)
      have hz19 := hE.size
      replace HE := hide (HE.out.trans hE)
      clear hE
      go_wp2_with fail
      refine (heldIntS_any _ _ _ _ _ HOg0.out.ints (by omega) (by omega)).mono ?_; rintro e w' ⟨rfl, rfl⟩
      go_wp2
      go_ret
      exact ⟨by first | rfl | simp, HE.out⟩
    · go_enter Try.func11, Try.ntmps11
      go_wp2
      go_ret
      exact ⟨rfl, Ext.refl _⟩
  · go_enter Try.func11, Try.ntmps11
    go_wp2
    go_ret
    exact ⟨rfl, Ext.refl _⟩

end Go.Proofs.Ytbaljgdepicigaa
