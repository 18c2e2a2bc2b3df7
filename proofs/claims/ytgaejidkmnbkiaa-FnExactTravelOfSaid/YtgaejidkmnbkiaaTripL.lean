/-
  The laws on places and trips.
-/
import Derived.Test.YtgaejidkmnbkiaaBase
import Derived.Test.YtgaejidkmnbkiaaMathA
import Derived.Test.YtgaejidkmnbkiaaMathD
import Derived.Test.YtgaejidkmnbkiaaLib
import Derived.Test.YtgaejidkmnbkiaaAid
import Derived.Test.YtgaejidkmnbkiaaGrid
import Derived.Test.YtgaejidkmnbkiaaLibF
import Derived.Test.YtgaejidkmnbkiaaMathT
import Derived.Test.YtgaejidkmnbkiaaDist
import Derived.Test.YtgaejidkmnbkiaaPlan
import Derived.Test.YtgaejidkmnbkiaaPlanB
import Derived.Test.YtgaejidkmnbkiaaTrip
namespace Go.Proofs.Ytgaejidkmnbkiaa
open Go.RowKit
set_option linter.unusedVariables false

-- law PlacesOf
theorem law_PlacesOf (a0 : Int) (A1 : Option Addr) (n1 c1 : Nat) (xs1 : List (List Int)) (a2 : Int) (w : World) (hi0 : I64 a0) (h1 : Grid w A1 n1 c1 xs1) (hi2 : I64 a2) :
    Calls Try.prog 6 #[.int .i64 a0, .slice A1 n1 c1, .int .i64 a2] w fun e w' => e = .returned (.bool true) ∧ Ext w w' := by
  have hl1 := h1.len; subst hl1
  have HI1 := hide h1; clear h1
  by_cases hs1 : (bulk xs1 : Int) ≤ 1048576
  · skip
    have hb1 : bulk xs1 ≤ 1048576 := by omega
    have hbl1 : xs1.length ≤ 1048576 := by have h := hb1; unfold bulk at h; omega
    have hbt1 : tot xs1 ≤ 1048576 := by have h := hb1; unfold bulk at h; omega
    have hln := places_len a0 xs1 a2
    go_enter Try.func6, Try.ntmps6
    have HSZ := hide (szLeft_yes (n := bulk xs1) (left := 1048576) (by omega))
    go_wp2_with fail
    refine (szIntSS_any _ _ _ xs1 _ _ HI1.out (by omega) (by omega)).mono ?_; rw [HSZ.out]; rintro e w' ⟨rfl, rfl⟩
    clear HSZ
    go_wp2_with fail
    refine (toIntSS_any _ _ _ xs1 _ HI1.out hb1).mono ?_; rintro e w1 ⟨At1, ct1, rfl, ho, hE⟩
    have hz1 := hE.size
    have HE := hide hE
    clear hE
    have HOt1 := hide ho; clear ho
    go_wp2_with fail
    refine (sPlacesOf_any a0 _ _ _ xs1 a2 _ hi0 HOt1.out.grid).mono ?_; rintro e w2 ⟨Aw0, cw0, rfl, ho0, hE⟩
    replace HOt1 := hide (HOt1.out.ext hE)
    have hz2 := hE.size
    replace HE := hide (HE.out.trans hE)
    clear hE
    have HOw0 := hide (InI.mk_ ho0); clear ho0
    go_wp2_with fail
    refine (toIntSS_any _ _ _ xs1 _ (HI1.out.ext HE.out) hb1).mono ?_; rintro e w3 ⟨Ax1, cx1, rfl, ho, hE⟩
    replace HOt1 := hide (HOt1.out.ext hE)
    replace HOw0 := hide (HOw0.out.ext hE)
    have hz3 := hE.size
    replace HE := hide (HE.out.trans hE)
    clear hE
    have HOx1 := hide ho; clear ho
    go_wp2_with fail
    refine (iPlacesOf_any a0 _ _ _ xs1 a2 _ hi0 HOx1.out.grid).mono ?_; rintro e w4 ⟨Ag0, cg0, rfl, ho0, hE⟩
    replace HOt1 := hide (HOt1.out.ext hE)
    replace HOw0 := hide (HOw0.out.ext hE)
    replace HOx1 := hide (HOx1.out.ext hE)
    have hz4 := hE.size
    replace HE := hide (HE.out.trans hE)
    clear hE
    have HOg0 := hide (InI.mk_ ho0); clear ho0
    go_wp2_with fail
    refine (eqIntS_any _ _ _ (places a0 xs1 a2) _ _ _ (places a0 xs1 a2) _ HOg0.out.ints HOw0.out.ints).mono ?_; rintro e w5 ⟨rfl, hE⟩
    replace HOt1 := hide (HOt1.out.ext hE)
    replace HOw0 := hide (HOw0.out.ext hE)
    replace HOx1 := hide (HOx1.out.ext hE)
    replace HOg0 := hide (HOg0.out.ext hE)
    have hz5 := hE.size
    replace HE := hide (HE.out.trans hE)
    clear hE
    go_wp2_with fail
    refine (toIntSS_any _ _ _ xs1 _ (HI1.out.ext HE.out) hb1).mono ?_; rintro e w6 ⟨At3, ct3, rfl, ho, hE⟩
    replace HOt1 := hide (HOt1.out.ext hE)
    replace HOw0 := hide (HOw0.out.ext hE)
    replace HOx1 := hide (HOx1.out.ext hE)
    replace HOg0 := hide (HOg0.out.ext hE)
    have hz6 := hE.size
    replace HE := hide (HE.out.trans hE)
    clear hE
    have HOt3 := hide ho; clear ho
    go_wp2_with fail
    refine (eqIntSS_any _ _ _ (xs1) _ _ _ (xs1) _ HOx1.out.grid HOt3.out.grid).mono ?_; rintro e w7 ⟨rfl, hE⟩
    replace HOt1 := hide (HOt1.out.ext hE)
    replace HOw0 := hide (HOw0.out.ext hE)
    replace HOx1 := hide (HOx1.out.ext hE)
    replace HOg0 := hide (HOg0.out.ext hE)
    replace HOt3 := hide (HOt3.out.ext hE)
    have hz7 := hE.size
    replace HE := hide (HE.out.trans hE)
    clear hE
    go_wp2_with fail
    refine (markIntSS_in _ _ _ (xs1) _ _ HOx1.out (by omega) (by omega)).mono ?_; rintro e w8 ⟨rfl, ho, hg⟩
    have hz8 := hg.size
    replace HOt1 := hide (HOt1.out.only hg (by omega))
    replace HOw0 := hide (HOw0.out.only hg (by omega))
    replace HOg0 := hide (HOg0.out.only hg (by omega))
    replace HOt3 := hide (HOt3.out.only hg (by omega))
    replace HE := hide (HE.out.only hg (by omega))
    replace HOx1 := hide ho; clear ho hg
    go_wp2_with fail
    refine (eqIntS_any _ _ _ (places a0 xs1 a2) _ _ _ (places a0 xs1 a2) _ HOg0.out.ints HOw0.out.ints).mono ?_; rintro e w9 ⟨rfl, hE⟩
    replace HOt1 := hide (HOt1.out.ext hE)
    replace HOw0 := hide (HOw0.out.ext hE)
    replace HOx1 := hide (HOx1.out.ext hE)
    replace HOg0 := hide (HOg0.out.ext hE)
    replace HOt3 := hide (HOt3.out.ext hE)
    have hz9 := hE.size
    replace HE := hide (HE.out.trans hE)
    clear hE
    go_wp2_with fail
    refine (markIntS_in _ _ _ (places a0 xs1 a2) _ _ HOg0.out (by omega) (by omega)).mono ?_; rintro e w10 ⟨rfl, ho, hg⟩
    have hz10 := hg.size
    replace HOt1 := hide (HOt1.out.only hg (by omega))
    replace HOw0 := hide (HOw0.out.only hg (by omega))
    replace HOx1 := hide (HOx1.out.only hg (by omega))
    replace HOt3 := hide (HOt3.out.only hg (by omega))
    replace HE := hide (HE.out.only hg (by omega))
    replace HOg0 := hide ho; clear ho hg
    go_wp2_with fail
    refine (heldIntS_any _ _ _ _ _ HOg0.out.ints (by omega) (by omega)).mono ?_; rintro e w' ⟨rfl, rfl⟩
    go_wp2_with fail
    refine (toIntSS_any _ _ _ xs1 _ (HI1.out.ext HE.out) hb1).mono ?_; rintro e w11 ⟨At4, ct4, rfl, ho, hE⟩
    replace HOt1 := hide (HOt1.out.ext hE)
    replace HOw0 := hide (HOw0.out.ext hE)
    replace HOx1 := hide (HOx1.out.ext hE)
    replace HOg0 := hide (HOg0.out.ext hE)
    replace HOt3 := hide (HOt3.out.ext hE)
    have hz11 := hE.size
    replace HE := hide (HE.out.trans hE)
    clear hE
    have HOt4 := hide ho; clear ho
    go_wp2_with fail
    refine (iPlacesOf_any a0 _ _ _ xs1 a2 _ hi0 HOt4.out.grid).mono ?_; rintro e w12 ⟨Ah0, ch0, rfl, ho0, hE⟩
    replace HOt1 := hide (HOt1.out.ext hE)
    replace HOw0 := hide (HOw0.out.ext hE)
    replace HOx1 := hide (HOx1.out.ext hE)
    replace HOg0 := hide (HOg0.out.ext hE)
    replace HOt3 := hide (HOt3.out.ext hE)
    replace HOt4 := hide (HOt4.out.ext hE)
    have hz12 := hE.size
    replace HE := hide (HE.out.trans hE)
    clear hE
    have HOh0 := hide (InI.mk_ ho0); clear ho0
    go_wp2_with fail
    refine (eqIntS_any _ _ _ (places a0 xs1 a2) _ _ _ (places a0 xs1 a2) _ HOh0.out.ints HOw0.out.ints).mono ?_; rintro e w13 ⟨rfl, hE⟩
    replace HOt1 := hide (HOt1.out.ext hE)
    replace HOw0 := hide (HOw0.out.ext hE)
    replace HOx1 := hide (HOx1.out.ext hE)
    replace HOg0 := hide (HOg0.out.ext hE)
    replace HOt3 := hide (HOt3.out.ext hE)
    replace HOt4 := hide (HOt4.out.ext hE)
    replace HOh0 := hide (HOh0.out.ext hE)
    have hz13 := hE.size
    replace HE := hide (HE.out.trans hE)
    clear hE
    go_wp2_with fail
    refine (heldIntS_any _ _ _ _ _ HOg0.out.ints (by omega) (by omega)).mono ?_; rintro e w' ⟨rfl, rfl⟩
    go_wp2
    go_ret
    exact ⟨by first | rfl | simp, HE.out⟩
  · go_enter Try.func6, Try.ntmps6
    have HSZ := hide (szLeft_no (n := bulk xs1) (left := 1048576) (by omega))
    go_wp2_with fail
    refine (szIntSS_any _ _ _ xs1 _ _ HI1.out (by omega) (by omega)).mono ?_; rw [HSZ.out]; rintro e w' ⟨rfl, rfl⟩
    clear HSZ
    go_wp2
    go_ret
    exact ⟨rfl, Ext.refl _⟩
-- law TripOf
theorem law_TripOf (a0 : Int) (A1 : Option Addr) (n1 c1 : Nat) (xs1 : List (List Int)) (A2 : Option Addr) (n2 c2 : Nat) (xs2 : List (List Int)) (a3 : Int) (w : World) (hi0 : I64 a0) (h1 : Grid w A1 n1 c1 xs1) (h2 : Grid w A2 n2 c2 xs2) (hi3 : I64 a3) :
    Calls Try.prog 8 #[.int .i64 a0, .slice A1 n1 c1, .slice A2 n2 c2, .int .i64 a3] w fun e w' => e = .returned (.bool true) ∧ Ext w w' := by
  have hl1 := h1.len; subst hl1
  have HI1 := hide h1; clear h1
  have hl2 := h2.len; subst hl2
  have HI2 := hide h2; clear h2
  by_cases hs1 : (bulk xs1 : Int) ≤ 1048576
  · skip
    have hb1 : bulk xs1 ≤ 1048576 := by omega
    have hbl1 : xs1.length ≤ 1048576 := by have h := hb1; unfold bulk at h; omega
    have hbt1 : tot xs1 ≤ 1048576 := by have h := hb1; unfold bulk at h; omega
    by_cases hs2 : (bulk xs2 : Int) ≤ 1048576 - (bulk xs1 : Int)
    · skip
      have hb2 : bulk xs2 ≤ 1048576 := by omega
      have hbl2 : xs2.length ≤ 1048576 := by have h := hb2; unfold bulk at h; omega
      have hbt2 : tot xs2 ≤ 1048576 := by have h := hb2; unfold bulk at h; omega
      go_enter Try.func8, Try.ntmps8
      have HSZ := hide (szLeft_yes (n := bulk xs1) (left := 1048576) (by omega))
      go_wp2_with fail
      refine (szIntSS_any _ _ _ xs1 _ _ HI1.out (by omega) (by omega)).mono ?_; rw [HSZ.out]; rintro e w' ⟨rfl, rfl⟩
      clear HSZ
      have HSZ := hide (szLeft_yes (n := bulk xs2) (left := 1048576 - (bulk xs1 : Int)) (by omega))
      go_wp2_with fail
      refine (szIntSS_any _ _ _ xs2 _ _ HI2.out (by omega) (by omega)).mono ?_; rw [HSZ.out]; rintro e w' ⟨rfl, rfl⟩
      clear HSZ
      go_wp2_with fail
      refine (toIntSS_any _ _ _ xs1 _ HI1.out hb1).mono ?_; rintro e w1 ⟨At1, ct1, rfl, ho, hE⟩
      have hz1 := hE.size
      have HE := hide hE
      clear hE
      have HOt1 := hide ho; clear ho
      go_wp2_with fail
      refine (toIntSS_any _ _ _ xs2 _ (HI2.out.ext HE.out) hb2).mono ?_; rintro e w2 ⟨At2, ct2, rfl, ho, hE⟩
      replace HOt1 := hide (HOt1.out.ext hE)
      have hz2 := hE.size
      replace HE := hide (HE.out.trans hE)
      clear hE
      have HOt2 := hide ho; clear ho
      go_wp2_with fail
      refine (sTripOf_any a0 _ _ _ xs1 _ _ _ xs2 a3 _ hi0 HOt1.out.grid HOt2.out.grid).mono ?_; rintro e w3 ⟨rfl, hE⟩
      replace HOt1 := hide (HOt1.out.ext hE)
      replace HOt2 := hide (HOt2.out.ext hE)
      have hz3 := hE.size
      replace HE := hide (HE.out.trans hE)
      clear hE
      go_wp2_with fail
      refine (toIntSS_any _ _ _ xs1 _ (HI1.out.ext HE.out) hb1).mono ?_; rintro e w4 ⟨Ax1, cx1, rfl, ho, hE⟩
      replace HOt1 := hide (HOt1.out.ext hE)
      replace HOt2 := hide (HOt2.out.ext hE)
      have hz4 := hE.size
      replace HE := hide (HE.out.trans hE)
      clear hE
      have HOx1 := hide ho; clear ho
      go_wp2_with fail
      refine (toIntSS_any _ _ _ xs2 _ (HI2.out.ext HE.out) hb2).mono ?_; rintro e w5 ⟨Ax2, cx2, rfl, ho, hE⟩
      replace HOt1 := hide (HOt1.out.ext hE)
      replace HOt2 := hide (HOt2.out.ext hE)
      replace HOx1 := hide (HOx1.out.ext hE)
      have hz5 := hE.size
      replace HE := hide (HE.out.trans hE)
      clear hE
      have HOx2 := hide ho; clear ho
      go_wp2_with fail
      refine (iTripOf_any a0 _ _ _ xs1 _ _ _ xs2 a3 _ hi0 HOx1.out.grid HOx2.out.grid).mono ?_; rintro e w6 ⟨rfl, hE⟩
      replace HOt1 := hide (HOt1.out.ext hE)
      replace HOt2 := hide (HOt2.out.ext hE)
      replace HOx1 := hide (HOx1.out.ext hE)
      replace HOx2 := hide (HOx2.out.ext hE)
      have hz6 := hE.size
      replace HE := hide (HE.out.trans hE)
      clear hE
      go_wp2_with fail
      refine (toIntSS_any _ _ _ xs1 _ (HI1.out.ext HE.out) hb1).mono ?_; rintro e w7 ⟨At5, ct5, rfl, ho, hE⟩
      replace HOt1 := hide (HOt1.out.ext hE)
      replace HOt2 := hide (HOt2.out.ext hE)
      replace HOx1 := hide (HOx1.out.ext hE)
      replace HOx2 := hide (HOx2.out.ext hE)
      have hz7 := hE.size
      replace HE := hide (HE.out.trans hE)
      clear hE
      have HOt5 := hide ho; clear ho
      go_wp2_with fail
      refine (eqIntSS_any _ _ _ (xs1) _ _ _ (xs1) _ HOx1.out.grid HOt5.out.grid).mono ?_; rintro e w8 ⟨rfl, hE⟩
      replace HOt1 := hide (HOt1.out.ext hE)
      replace HOt2 := hide (HOt2.out.ext hE)
      replace HOx1 := hide (HOx1.out.ext hE)
      replace HOx2 := hide (HOx2.out.ext hE)
      replace HOt5 := hide (HOt5.out.ext hE)
      have hz8 := hE.size
      replace HE := hide (HE.out.trans hE)
      clear hE
      go_wp2_with fail
      refine (toIntSS_any _ _ _ xs2 _ (HI2.out.ext HE.out) hb2).mono ?_; rintro e w9 ⟨At6, ct6, rfl, ho, hE⟩
      replace HOt1 := hide (HOt1.out.ext hE)
      replace HOt2 := hide (HOt2.out.ext hE)
      replace HOx1 := hide (HOx1.out.ext hE)
      replace HOx2 := hide (HOx2.out.ext hE)
      replace HOt5 := hide (HOt5.out.ext hE)
      have hz9 := hE.size
      replace HE := hide (HE.out.trans hE)
      clear hE
      have HOt6 := hide ho; clear ho
      go_wp2_with fail
      refine (eqIntSS_any _ _ _ (xs2) _ _ _ (xs2) _ HOx2.out.grid HOt6.out.grid).mono ?_; rintro e w10 ⟨rfl, hE⟩
      replace HOt1 := hide (HOt1.out.ext hE)
      replace HOt2 := hide (HOt2.out.ext hE)
      replace HOx1 := hide (HOx1.out.ext hE)
      replace HOx2 := hide (HOx2.out.ext hE)
      replace HOt5 := hide (HOt5.out.ext hE)
      replace HOt6 := hide (HOt6.out.ext hE)
      have hz10 := hE.size
      replace HE := hide (HE.out.trans hE)
      clear hE
      go_wp2
      go_ret
      exact ⟨by first | rfl | simp, HE.out⟩
    · go_enter Try.func8, Try.ntmps8
      have HSZ := hide (szLeft_yes (n := bulk xs1) (left := 1048576) (by omega))
      go_wp2_with fail
      refine (szIntSS_any _ _ _ xs1 _ _ HI1.out (by omega) (by omega)).mono ?_; rw [HSZ.out]; rintro e w' ⟨rfl, rfl⟩
      clear HSZ
      have HSZ := hide (szLeft_no (n := bulk xs2) (left := 1048576 - (bulk xs1 : Int)) (by omega))
      go_wp2_with fail
      refine (szIntSS_any _ _ _ xs2 _ _ HI2.out (by omega) (by omega)).mono ?_; rw [HSZ.out]; rintro e w' ⟨rfl, rfl⟩
      clear HSZ
      go_wp2
      go_ret
      exact ⟨rfl, Ext.refl _⟩
  · go_enter Try.func8, Try.ntmps8
    have HSZ := hide (szLeft_no (n := bulk xs1) (left := 1048576) (by omega))
    go_wp2_with fail
    refine (szIntSS_any _ _ _ xs1 _ _ HI1.out (by omega) (by omega)).mono ?_; rw [HSZ.out]; rintro e w' ⟨rfl, rfl⟩
    clear HSZ
    go_wp2
    go_ret
    exact ⟨rfl, Ext.refl _⟩
-- law TravelOf
theorem law_TravelOf (a0 : Int) (A1 : Option Addr) (n1 c1 : Nat) (xs1 : List (List Int)) (A2 : Option Addr) (n2 c2 : Nat) (xs2 : List (List Int)) (w : World) (hi0 : I64 a0) (h1 : Grid w A1 n1 c1 xs1) (h2 : Grid w A2 n2 c2 xs2) :
    Calls Try.prog 9 #[.int .i64 a0, .slice A1 n1 c1, .slice A2 n2 c2] w fun e w' => e = .returned (.bool true) ∧ Ext w w' := by
  have hl1 := h1.len; subst hl1
  have HI1 := hide h1; clear h1
  have hl2 := h2.len; subst hl2
  have HI2 := hide h2; clear h2
  by_cases hs1 : (bulk xs1 : Int) ≤ 1048576
  · skip
    have hb1 : bulk xs1 ≤ 1048576 := by omega
    have hbl1 : xs1.length ≤ 1048576 := by have h := hb1; unfold bulk at h; omega
    have hbt1 : tot xs1 ≤ 1048576 := by have h := hb1; unfold bulk at h; omega
    by_cases hs2 : (bulk xs2 : Int) ≤ 1048576 - (bulk xs1 : Int)
    · skip
      have hb2 : bulk xs2 ≤ 1048576 := by omega
      have hbl2 : xs2.length ≤ 1048576 := by have h := hb2; unfold bulk at h; omega
      have hbt2 : tot xs2 ≤ 1048576 := by have h := hb2; unfold bulk at h; omega
      go_enter Try.func9, Try.ntmps9
      have HSZ := hide (szLeft_yes (n := bulk xs1) (left := 1048576) (by omega))
      go_wp2_with fail
      refine (szIntSS_any _ _ _ xs1 _ _ HI1.out (by omega) (by omega)).mono ?_; rw [HSZ.out]; rintro e w' ⟨rfl, rfl⟩
      clear HSZ
      have HSZ := hide (szLeft_yes (n := bulk xs2) (left := 1048576 - (bulk xs1 : Int)) (by omega))
      go_wp2_with fail
      refine (szIntSS_any _ _ _ xs2 _ _ HI2.out (by omega) (by omega)).mono ?_; rw [HSZ.out]; rintro e w' ⟨rfl, rfl⟩
      clear HSZ
      go_wp2_with fail
      refine (toIntSS_any _ _ _ xs1 _ HI1.out hb1).mono ?_; rintro e w1 ⟨At1, ct1, rfl, ho, hE⟩
      have hz1 := hE.size
      have HE := hide hE
      clear hE
      have HOt1 := hide ho; clear ho
      go_wp2_with fail
      refine (toIntSS_any _ _ _ xs2 _ (HI2.out.ext HE.out) hb2).mono ?_; rintro e w2 ⟨At2, ct2, rfl, ho, hE⟩
      replace HOt1 := hide (HOt1.out.ext hE)
      have hz2 := hE.size
      replace HE := hide (HE.out.trans hE)
      clear hE
      have HOt2 := hide ho; clear ho
      go_wp2_with fail
      refine (sTravelOf_any a0 _ _ _ xs1 _ _ _ xs2 _ hi0 HOt1.out.grid HOt2.out.grid).mono ?_; rintro e w3 ⟨rfl, hE⟩
      replace HOt1 := hide (HOt1.out.ext hE)
      replace HOt2 := hide (HOt2.out.ext hE)
      have hz3 := hE.size
      replace HE := hide (HE.out.trans hE)
      clear hE
      go_wp2_with fail
      refine (toIntSS_any _ _ _ xs1 _ (HI1.out.ext HE.out) hb1).mono ?_; rintro e w4 ⟨Ax1, cx1, rfl, ho, hE⟩
      replace HOt1 := hide (HOt1.out.ext hE)
      replace HOt2 := hide (HOt2.out.ext hE)
      have hz4 := hE.size
      replace HE := hide (HE.out.trans hE)
      clear hE
      have HOx1 := hide ho; clear ho
      go_wp2_with fail
      refine (toIntSS_any _ _ _ xs2 _ (HI2.out.ext HE.out) hb2).mono ?_; rintro e w5 ⟨Ax2, cx2, rfl, ho, hE⟩
      replace HOt1 := hide (HOt1.out.ext hE)
      replace HOt2 := hide (HOt2.out.ext hE)
      replace HOx1 := hide (HOx1.out.ext hE)
      have hz5 := hE.size
      replace HE := hide (HE.out.trans hE)
      clear hE
      have HOx2 := hide ho; clear ho
      go_wp2_with fail
      refine (iTravelOf_any a0 _ _ _ xs1 _ _ _ xs2 _ hi0 HOx1.out.grid HOx2.out.grid).mono ?_; rintro e w6 ⟨rfl, hE⟩
      replace HOt1 := hide (HOt1.out.ext hE)
      replace HOt2 := hide (HOt2.out.ext hE)
      replace HOx1 := hide (HOx1.out.ext hE)
      replace HOx2 := hide (HOx2.out.ext hE)
      have hz6 := hE.size
      replace HE := hide (HE.out.trans hE)
      clear hE
      go_wp2_with fail
      refine (toIntSS_any _ _ _ xs1 _ (HI1.out.ext HE.out) hb1).mono ?_; rintro e w7 ⟨At5, ct5, rfl, ho, hE⟩
      replace HOt1 := hide (HOt1.out.ext hE)
      replace HOt2 := hide (HOt2.out.ext hE)
      replace HOx1 := hide (HOx1.out.ext hE)
      replace HOx2 := hide (HOx2.out.ext hE)
      have hz7 := hE.size
      replace HE := hide (HE.out.trans hE)
      clear hE
      have HOt5 := hide ho; clear ho
      go_wp2_with fail
      refine (eqIntSS_any _ _ _ (xs1) _ _ _ (xs1) _ HOx1.out.grid HOt5.out.grid).mono ?_; rintro e w8 ⟨rfl, hE⟩
      replace HOt1 := hide (HOt1.out.ext hE)
      replace HOt2 := hide (HOt2.out.ext hE)
      replace HOx1 := hide (HOx1.out.ext hE)
      replace HOx2 := hide (HOx2.out.ext hE)
      replace HOt5 := hide (HOt5.out.ext hE)
      have hz8 := hE.size
      replace HE := hide (HE.out.trans hE)
      clear hE
      go_wp2_with fail
      refine (toIntSS_any _ _ _ xs2 _ (HI2.out.ext HE.out) hb2).mono ?_; rintro e w9 ⟨At6, ct6, rfl, ho, hE⟩
      replace HOt1 := hide (HOt1.out.ext hE)
      replace HOt2 := hide (HOt2.out.ext hE)
      replace HOx1 := hide (HOx1.out.ext hE)
      replace HOx2 := hide (HOx2.out.ext hE)
      replace HOt5 := hide (HOt5.out.ext hE)
      have hz9 := hE.size
      replace HE := hide (HE.out.trans hE)
      clear hE
      have HOt6 := hide ho; clear ho
      go_wp2_with fail
      refine (eqIntSS_any _ _ _ (xs2) _ _ _ (xs2) _ HOx2.out.grid HOt6.out.grid).mono ?_; rintro e w10 ⟨rfl, hE⟩
      replace HOt1 := hide (HOt1.out.ext hE)
      replace HOt2 := hide (HOt2.out.ext hE)
      replace HOx1 := hide (HOx1.out.ext hE)
      replace HOx2 := hide (HOx2.out.ext hE)
      replace HOt5 := hide (HOt5.out.ext hE)
      replace HOt6 := hide (HOt6.out.ext hE)
      have hz10 := hE.size
      replace HE := hide (HE.out.trans hE)
      clear hE
      go_wp2
      go_ret
      exact ⟨by first | rfl | simp, HE.out⟩
    · go_enter Try.func9, Try.ntmps9
      have HSZ := hide (szLeft_yes (n := bulk xs1) (left := 1048576) (by omega))
      go_wp2_with fail
      refine (szIntSS_any _ _ _ xs1 _ _ HI1.out (by omega) (by omega)).mono ?_; rw [HSZ.out]; rintro e w' ⟨rfl, rfl⟩
      clear HSZ
      have HSZ := hide (szLeft_no (n := bulk xs2) (left := 1048576 - (bulk xs1 : Int)) (by omega))
      go_wp2_with fail
      refine (szIntSS_any _ _ _ xs2 _ _ HI2.out (by omega) (by omega)).mono ?_; rw [HSZ.out]; rintro e w' ⟨rfl, rfl⟩
      clear HSZ
      go_wp2
      go_ret
      exact ⟨rfl, Ext.refl _⟩
  · go_enter Try.func9, Try.ntmps9
    have HSZ := hide (szLeft_no (n := bulk xs1) (left := 1048576) (by omega))
    go_wp2_with fail
    refine (szIntSS_any _ _ _ xs1 _ _ HI1.out (by omega) (by omega)).mono ?_; rw [HSZ.out]; rintro e w' ⟨rfl, rfl⟩
    clear HSZ
    go_wp2
    go_ret
    exact ⟨rfl, Ext.refl _⟩

end Go.Proofs.Ytgaejidkmnbkiaa
