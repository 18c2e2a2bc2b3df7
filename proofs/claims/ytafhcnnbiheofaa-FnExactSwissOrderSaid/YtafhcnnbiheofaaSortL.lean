/-
  The law on the order of a Swiss tournament.
-/
import Derived.Laws.ShiftsVar
import Derived.Test.YtafhcnnbiheofaaBase
import Derived.Test.YtafhcnnbiheofaaMathA
import Derived.Test.YtafhcnnbiheofaaMathD
import Derived.Test.YtafhcnnbiheofaaLib
import Derived.Test.YtafhcnnbiheofaaAid
import Derived.Test.YtafhcnnbiheofaaStep
import Derived.Test.YtafhcnnbiheofaaGrid
import Derived.Test.YtafhcnnbiheofaaLibF
import Derived.Test.YtafhcnnbiheofaaMathB
import Derived.Test.YtafhcnnbiheofaaMathU
import Derived.Test.YtafhcnnbiheofaaMathG
import Derived.Test.YtafhcnnbiheofaaMathX
import Derived.Test.YtafhcnnbiheofaaMathS
import Derived.Test.YtafhcnnbiheofaaMathO
import Derived.Test.YtafhcnnbiheofaaSwiss
import Derived.Test.YtafhcnnbiheofaaDblB
import Derived.Test.YtafhcnnbiheofaaSortA
namespace Go.Proofs.Ytafhcnnbiheofaa
open Go.RowKit
set_option linter.unusedVariables false

-- law SwissOrder
theorem law_SwissOrder (A0 : Option Addr) (n0 c0 : Nat) (xs0 : List Int) (w : World) (h0 : Ints w A0 n0 c0 xs0) :
    Calls Try.prog 9 #[.slice A0 n0 c0] w fun e w' => e = .returned (.bool true) ∧ Ext w w' := by
  have hl0 := h0.len; subst hl0
  have HI0 := hide h0; clear h0
  by_cases hs0 : xs0.length ≤ 1048576
  · skip
    have hln := swissOrder_len xs0
    go_enter Try.func9, Try.ntmps9
    go_wp2_with fail
    refine (toIntS_any _ _ _ xs0 _ HI0.out (by omega)).mono ?_; rintro e w1 ⟨At1, ct1, rfl, ho, hE⟩
    have hz1 := hE.size
    have HE := hide hE
    clear hE
    have HOt1 := hide (InI.mk_ ho); clear ho
    go_wp2_with fail
    refine (sSwissOrder_any _ _ _ xs0 _ HOt1.out.ints).mono ?_; rintro e w2 ⟨Aw0, cw0, rfl, ho0, hE⟩
    replace HOt1 := hide (HOt1.out.ext hE)
    have hz2 := hE.size
    replace HE := hide (HE.out.trans hE)
    clear hE
    have HOw0 := hide (InI.mk_ ho0); clear ho0
    go_wp2_with fail
    refine (toIntS_any _ _ _ xs0 _ (HI0.out.ext HE.out) (by omega)).mono ?_; rintro e w3 ⟨Ax0, cx0, rfl, ho, hE⟩
    replace HOt1 := hide (HOt1.out.ext hE)
    replace HOw0 := hide (HOw0.out.ext hE)
    have hz3 := hE.size
    replace HE := hide (HE.out.trans hE)
    clear hE
    have HOx0 := hide (InI.mk_ ho); clear ho
    go_wp2_with fail
    refine (iSwissOrder_any _ _ _ xs0 _ HOx0.out.ints).mono ?_; rintro e w4 ⟨Ag0, cg0, rfl, ho0, hE⟩
    replace HOt1 := hide (HOt1.out.ext hE)
    replace HOw0 := hide (HOw0.out.ext hE)
    replace HOx0 := hide (HOx0.out.ext hE)
    have hz4 := hE.size
    replace HE := hide (HE.out.trans hE)
    clear hE
    have HOg0 := hide (InI.mk_ ho0); clear ho0
    go_wp2_with fail
    refine (eqIntS_any _ _ _ (swissOrder xs0) _ _ _ (swissOrder xs0) _ HOg0.out.ints HOw0.out.ints).mono ?_; rintro e w5 ⟨rfl, hE⟩
    replace HOt1 := hide (HOt1.out.ext hE)
    replace HOw0 := hide (HOw0.out.ext hE)
    replace HOx0 := hide (HOx0.out.ext hE)
    replace HOg0 := hide (HOg0.out.ext hE)
    have hz5 := hE.size
    replace HE := hide (HE.out.trans hE)
    clear hE
    go_wp2_with fail
    refine (toIntS_any _ _ _ xs0 _ (HI0.out.ext HE.out) (by omega)).mono ?_; rintro e w6 ⟨At3, ct3, rfl, ho, hE⟩
    replace HOt1 := hide (HOt1.out.ext hE)
    replace HOw0 := hide (HOw0.out.ext hE)
    replace HOx0 := hide (HOx0.out.ext hE)
    replace HOg0 := hide (HOg0.out.ext hE)
    have hz6 := hE.size
    replace HE := hide (HE.out.trans hE)
    clear hE
    have HOt3 := hide (InI.mk_ ho); clear ho
    go_wp2_with fail
    refine (eqIntS_any _ _ _ (xs0) _ _ _ (xs0) _ HOx0.out.ints HOt3.out.ints).mono ?_; rintro e w7 ⟨rfl, hE⟩
    replace HOt1 := hide (HOt1.out.ext hE)
    replace HOw0 := hide (HOw0.out.ext hE)
    replace HOx0 := hide (HOx0.out.ext hE)
    replace HOg0 := hide (HOg0.out.ext hE)
    replace HOt3 := hide (HOt3.out.ext hE)
    have hz7 := hE.size
    replace HE := hide (HE.out.trans hE)
    clear hE
    go_wp2_with fail
    refine (markIntS_in _ _ _ (xs0) _ _ HOx0.out (by omega) (by omega)).mono ?_; rintro e w8 ⟨rfl, ho, hg⟩
    have hz8 := hg.size
    replace HOt1 := hide (HOt1.out.only hg (by omega))
    replace HOw0 := hide (HOw0.out.only hg (by omega))
    replace HOg0 := hide (HOg0.out.only hg (by omega))
    replace HOt3 := hide (HOt3.out.only hg (by omega))
    replace HE := hide (HE.out.only hg (by omega))
    replace HOx0 := hide ho; clear ho hg
    go_wp2_with fail
    refine (eqIntS_any _ _ _ (swissOrder xs0) _ _ _ (swissOrder xs0) _ HOg0.out.ints HOw0.out.ints).mono ?_; rintro e w9 ⟨rfl, hE⟩
    replace HOt1 := hide (HOt1.out.ext hE)
    replace HOw0 := hide (HOw0.out.ext hE)
    replace HOx0 := hide (HOx0.out.ext hE)
    replace HOg0 := hide (HOg0.out.ext hE)
    replace HOt3 := hide (HOt3.out.ext hE)
    have hz9 := hE.size
    replace HE := hide (HE.out.trans hE)
    clear hE
    go_wp2_with fail
    refine (markIntS_in _ _ _ (swissOrder xs0) _ _ HOg0.out (by omega) (by omega)).mono ?_; rintro e w10 ⟨rfl, ho, hg⟩
    have hz10 := hg.size
    replace HOt1 := hide (HOt1.out.only hg (by omega))
    replace HOw0 := hide (HOw0.out.only hg (by omega))
    replace HOx0 := hide (HOx0.out.only hg (by omega))
    replace HOt3 := hide (HOt3.out.only hg (by omega))
    replace HE := hide (HE.out.only hg (by omega))
    replace HOg0 := hide ho; clear ho hg
    go_wp2_with fail
    refine (heldIntS_any _ _ _ _ _ HOg0.out.ints (by omega) (by omega)).mono ?_; rintro e w' ⟨rfl, rfl⟩
    go_wp2_with fail
    refine (toIntS_any _ _ _ xs0 _ (HI0.out.ext HE.out) (by omega)).mono ?_; rintro e w11 ⟨At4, ct4, rfl, ho, hE⟩
    replace HOt1 := hide (HOt1.out.ext hE)
    replace HOw0 := hide (HOw0.out.ext hE)
    replace HOx0 := hide (HOx0.out.ext hE)
    replace HOg0 := hide (HOg0.out.ext hE)
    replace HOt3 := hide (HOt3.out.ext hE)
    have hz11 := hE.size
    replace HE := hide (HE.out.trans hE)
    clear hE
    have HOt4 := hide (InI.mk_ ho); clear ho
    go_wp2_with fail
    refine (iSwissOrder_any _ _ _ xs0 _ HOt4.out.ints).mono ?_; rintro e w12 ⟨Ah0, ch0, rfl, ho0, hE⟩
    replace HOt1 := hide (HOt1.out.ext hE)
    replace HOw0 := hide (HOw0.out.ext hE)
    replace HOx0 := hide (HOx0.out.ext hE)
    replace HOg0 := hide (HOg0.out.ext hE)
    replace HOt3 := hide (HOt3.out.ext hE)
    replace HOt4 := hide (HOt4.out.ext hE)
    have hz12 := hE.size
    replace HE := hide (HE.out.trans hE)
    clear hE
    have HOh0 := hide (InI.mk_ ho0); clear ho0
    go_wp2_with fail
    refine (eqIntS_any _ _ _ (swissOrder xs0) _ _ _ (swissOrder xs0) _ HOh0.out.ints HOw0.out.ints).mono ?_; rintro e w13 ⟨rfl, hE⟩
    replace HOt1 := hide (HOt1.out.ext hE)
    replace HOw0 := hide (HOw0.out.ext hE)
    replace HOx0 := hide (HOx0.out.ext hE)
    replace HOg0 := hide (HOg0.out.ext hE)
    replace HOt3 := hide (HOt3.out.ext hE)
    replace HOt4 := hide (HOt4.out.ext hE)
    replace HOh0 := hide (HOh0.out.ext hE)
    have hz13 := hE.size
    replace HE := hide (HE.out.trans hE)
    clear hE
    go_wp2_with fail
    refine (heldIntS_any _ _ _ _ _ HOg0.out.ints (by omega) (by omega)).mono ?_; rintro e w' ⟨rfl, rfl⟩
    go_wp2
    go_ret
    exact ⟨by first | rfl | simp, HE.out⟩
  · go_enter Try.func9, Try.ntmps9
    go_wp2
    go_ret
    exact ⟨rfl, Ext.refl _⟩

end Go.Proofs.Ytafhcnnbiheofaa
