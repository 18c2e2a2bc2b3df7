/-
  Contracts of the function that looks for a sovereign.
-/
import Derived.Deep.RegionHeld3
import Derived.Laws.ShiftsVar
import Derived.Test.YtbaljgdepicigaaDoorBase
import Derived.Test.YtbaljgdepicigaaDoorMgA
import Derived.Test.YtbaljgdepicigaaDoorLib
import Derived.Test.YtbaljgdepicigaaDoorAid
import Derived.Test.YtbaljgdepicigaaDoorGrid
import Derived.Test.YtbaljgdepicigaaDoorLibF
import Derived.Test.YtbaljgdepicigaaDoorStep
import Derived.Test.YtbaljgdepicigaaDoorPop
import Derived.Test.YtbaljgdepicigaaDoorSeed
import Derived.Test.YtbaljgdepicigaaDoorTour
import Derived.Test.YtbaljgdepicigaaDoorTourB
import Derived.Test.YtbaljgdepicigaaDoorDblB
import Derived.Test.YtbaljgdepicigaaDoorWin
import Derived.Test.YtbaljgdepicigaaDoorWinC
import Derived.Test.YtbaljgdepicigaaDoorWinE
namespace Go.Proofs.YtbaljgdepicigaaDoor
open Go.RowKit
set_option linter.unusedVariables false

-- words
/-- Who beats everybody else: -1 if nobody. -/
def sovP (s : Int) (xs : List Int) (x : Int) : Bool := decide ((pc (rowN xs x) : Int) = s - 1)
def sovOf (s : Int) (xs : List Int) : Int := if tourOk s xs then idxF (sovP s xs) (upto s.toNat) else -1
-- impl.SovereignOf$1
theorem sovOne_any (s : Int) (A : Option Addr) (n c : Nat) (xs : List Int) (b : Nat) (a : Int) (w : World) (ht : tourOk s xs) (h : Ints w A n c xs) (ha : 0 ≤ a ∧ a ≤ s - 1) (h0 : w.cell? ⟨b, 0, none⟩ = some (.int .i64 s)) (h1 : w.cell? ⟨b, 1, none⟩ = some (.slice A n c)) :
    Calls Tryd.prog 62 #[.int .i64 a, .pointer (some ⟨b, 0, none⟩)] w fun e w' => e = .returned (.bool (sovP s xs a)) ∧ Ext w w' := by
  have hs8 := tour_s8 ht
  have HI := hide h
  have HT := hide ht
  have hp8 := pc_le8 (rowN xs a)
  have HV := hide (show ((pc (rowN xs a) : Int) == s - 1) = sovP s xs a by unfold sovP; rw [Bool.eq_iff_iff]; simp)
  have KS := hide (show ∀ w', Ext w w' → (Ext w w' ∧ w'.cell? ⟨b, 0, none⟩ = some (.int .i64 s) ∧ w'.cell? ⟨b, 1, none⟩ = some (.slice A n c)) from fun w' hh => ⟨hh, hh.get h0, hh.get h1⟩)
  clear h ht h0 h1
  go_enter Tryd.func62, Tryd.ntmps62
  go_wp2
  go_region_held3 (fun w' => Ext w w' ∧ w'.cell? ⟨b, 0, none⟩ = some (.int .i64 s) ∧ w'.cell? ⟨b, 1, none⟩ = some (.slice A n c))
    (first | exact KS.out _ (Ext.refl _) | exact KS.out _ (Ext.refl _).drew | exact KS.out _ ((Ext.refl _).drew.trans hE2))
    (first | (go_at_call 59; refine (scoreI_any _ _ _ _ xs _ _ HT.out (HI.out.ext ((Ext.refl _).drew)) ha).mono ?_; rintro e w2 ⟨rfl, hE2⟩))
  go_wp2
  go_ret
  exact ⟨ret_bool (by rw [← HV.out, show IntKind.i64.wrap (s - 1) = s - 1 by rw [IntKind.wrap_i64]; omega]), (Ext.refl _).drew.trans hE2⟩
-- impl.SovereignOf
theorem iSovereign_any (s : Int) (A : Option Addr) (n c : Nat) (xs : List Int) (w : World) (h : Ints w A n c xs) :
    Calls Tryd.prog 19 #[.agg #[.int .i64 s, .slice A n c]] w fun e w' => e = .returned (.int .i64 (sovOf s xs)) ∧ Ext w w' := by
  have HI := hide h
  obtain ⟨W, hW⟩ : ∃ W : World, W = w.alloc (.cells #[.int .i64 s, .slice A n c] 26) := ⟨_, rfl⟩
  have HE := hide (show Ext w W by rw [hW]; exact Ext.one _ _)
  have B0 := hide (show W.cell? ⟨w.heap.size, 0, none⟩ = some (.int .i64 s) by rw [hW]; simp)
  have B1 := hide (show W.cell? ⟨w.heap.size, 1, none⟩ = some (.slice A n c) by rw [hW]; simp)
  have HW := hide hW
  clear h hW
  by_cases ht : tourOk s xs
  · have HT := hide ht
    have hs8 := tour_s8 ht
    obtain ⟨m, rfl⟩ : ∃ m : Nat, s = (m : Int) := ⟨s.toNat, by omega⟩
    have HV := hide (show sovOf (m : Int) xs = idxF (sovP (m : Int) xs) (upto m) by unfold sovOf; rw [if_pos ht, Int.toNat_natCast])
    have EG := hide (enters_of Tryd.func62 (by kernel_rfl) rfl)
    clear ht
    go_enter Tryd.func19, Tryd.ntmps19
    go_wp2_with (first
      | (rw [← HW.out]; go_at_call 43; refine (iTourOk_any _ _ _ _ xs _ (HI.out.ext HE.out)).mono ?_; rw [decide_eq_true HT.out]; rintro e w1 ⟨rfl, hE1⟩; have d0 := hE1.get B0.out; have d1 := hE1.get B1.out)
      | (go_at_call 49; refine (indices_any m _ (by omega)).mono ?_; rintro e w2 ⟨Bo, d, rfl, hoB, hE2⟩)
      | fail)
    have HB := hide hoB.ints
    have HE2 := hide ((HE.out.trans hE1).trans hE2)
    have m0 := hE2.get d0
    have m1 := hE2.get d1
    rw [upto_len] at HB ⊢
    have HP := hide (show PredI 62 #[.pointer (some ⟨w.heap.size, 0, none⟩)] (sovP (m : Int) xs) (upto m) w2 from fun (w' : World) (x : Int) (hx : x ∈ upto m) (hw : Ext w2 w') => sovOne_any (m : Int) A n c xs w.heap.size x w' HT.out (HI.out.ext (HE2.out.trans hw)) (by have := upto_mem.1 hx; omega) (hw.get m0) (hw.get m1))
    clear hoB hE1 hE2 d0 d1
    go_wp2_with fail
    refine (IndexFunc_any _ _ (sovP (m : Int) xs) EG.out _ _ _ (upto m) _ HB.out HP.out).mono ?_
    rintro e w3 ⟨rfl, hE3⟩
    go_wp2
    go_ret
    exact ⟨ret_int (by rw [HV.out]), HE2.out.trans hE3⟩
  · have HT := hide ht
    have HV := hide (show sovOf s xs = -1 from if_neg ht)
    clear ht
    go_enter Tryd.func19, Tryd.ntmps19
    go_wp2_with (first
      | (rw [← HW.out]; go_at_call 43; refine (iTourOk_any _ _ _ _ xs _ (HI.out.ext HE.out)).mono ?_; rw [decide_eq_false HT.out]; rintro e w1 ⟨rfl, hE1⟩)
      | fail)
    go_ret
    exact ⟨ret_int HV.out.symm, HE.out.trans hE1⟩

end Go.Proofs.YtbaljgdepicigaaDoor
