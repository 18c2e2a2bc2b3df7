/-
  Contracts of the functions that give the places of a double elimination.
-/
import Derived.Laws.ShiftsVar
import Derived.Deep.RegionHeld3
import Derived.Test.YtbaljgdepicigaaBase
import Derived.Test.YtbaljgdepicigaaMathA
import Derived.Test.YtbaljgdepicigaaMathD
import Derived.Test.YtbaljgdepicigaaLib
import Derived.Test.YtbaljgdepicigaaAid
import Derived.Test.YtbaljgdepicigaaStep
import Derived.Test.YtbaljgdepicigaaGrid
import Derived.Test.YtbaljgdepicigaaLibF
import Derived.Test.YtbaljgdepicigaaMathB
import Derived.Test.YtbaljgdepicigaaMathU
import Derived.Test.YtbaljgdepicigaaMathW
import Derived.Test.YtbaljgdepicigaaMathZ
import Derived.Test.YtbaljgdepicigaaMathY
import Derived.Test.YtbaljgdepicigaaPop
import Derived.Test.YtbaljgdepicigaaMathG
import Derived.Test.YtbaljgdepicigaaMathX
import Derived.Test.YtbaljgdepicigaaDblA
import Derived.Test.YtbaljgdepicigaaSeed
import Derived.Test.YtbaljgdepicigaaTour
import Derived.Test.YtbaljgdepicigaaTourB
import Derived.Test.YtbaljgdepicigaaDblB
import Derived.Test.YtbaljgdepicigaaDblD
import Derived.Test.YtbaljgdepicigaaDblC
import Derived.Test.YtbaljgdepicigaaDblE
import Derived.Test.YtbaljgdepicigaaDblF
namespace Go.Proofs.Ytbaljgdepicigaa
open Go.RowKit
set_option linter.unusedVariables false

-- impl.DoublePlaces
theorem iPlaces2_any (s : Int) (A : Option Addr) (n c : Nat) (xs : List Int) (w : World) (h : Ints w A n c xs) :
    Calls Try.prog 66 #[.agg #[.int .i64 s, .slice A n c]] w (RetI w (placesOf2 s xs)) := by
  have HI := hide h
  by_cases ht : tourOk s xs
  · have hz := tourOk_size ht
    rw [h.len] at hz
    obtain ⟨hn1, hn8, rfl⟩ := hz
    have HT := hide ht
    have HV := hide (show placesOf2 (n : Int) xs = placesD xs (upto n) by unfold placesOf2; rw [if_pos ht, h.len])
    clear ht h
    go_enter Try.func66, Try.ntmps66
    go_wp2_with fail
    obtain ⟨W, hW⟩ : ∃ W : World, W = w.alloc (.cells #[.int .i64 (n : Int), .slice A n c] 33) := ⟨_, rfl⟩
    have HE := hide (show Ext w W by rw [hW]; exact Ext.one _ _)
    have B0 := hide (show W.cell? ⟨w.heap.size, 0, none⟩ = some (.int .i64 (n : Int)) by rw [hW]; simp)
    have B1 := hide (show W.cell? ⟨w.heap.size, 1, none⟩ = some (.slice A n c) by rw [hW]; simp)
    rw [← hW]
    clear hW
    refine (iTourOk_any _ _ _ _ xs _ (HI.out.ext HE.out)).mono ?_
    rw [decide_eq_true HT.out]
    rintro e w1 ⟨rfl, hE1⟩
    have c0 := hE1.get B0.out
    have c1 := hE1.get B1.out
    have HE1 := hide (HE.out.trans hE1)
    have KS := hide (show ∀ w', Ext w1 w' → (Ext w1 w' ∧ w'.cell? ⟨w.heap.size, 0, none⟩ = some (.int .i64 (n : Int)) ∧ w'.cell? ⟨w.heap.size, 1, none⟩ = some (.slice A n c)) from fun w' hh => ⟨hh, hh.get c0, hh.get c1⟩)
    clear hE1 c0 c1
    go_wp2
    go_region_held3 (fun w' => Ext w1 w' ∧ w'.cell? ⟨w.heap.size, 0, none⟩ = some (.int .i64 (n : Int)) ∧ w'.cell? ⟨w.heap.size, 1, none⟩ = some (.slice A n c))
      (first | exact KS.out _ (Ext.refl _) | exact KS.out _ (Ext.refl _).drew | exact KS.out _ ((Ext.refl _).drew.trans hE2) | exact KS.out _ (((Ext.refl _).drew.trans hE2).trans hE3))
      (first | (go_at_call 84; refine (indices_any n _ (by omega)).mono ?_; rintro e w2 ⟨B, d, rfl, hoB, hE2⟩) | (go_at_call 132; refine (double_any _ _ _ _ xs _ _ _ (upto n) _ HT.out (HI.out.ext ((HE1.out.drew).trans hE2)) hoB.ints upto_nat (by rw [upto_len]; exact hn8) (upto_nodup n)).mono ?_; rintro e w3 ⟨G, g, P, pd, rfl, hoG, hoP, hE3⟩))
    go_wp2
    go_ret
    rw [HV.out]
    exact RetI.mk rfl (hoP.mono (by have := hE2.size; have := HE1.out.size; simp at *; omega)) (((HE1.out.drew).trans hE2).trans hE3)
  · have HV := hide (show placesOf2 s xs = [] by unfold placesOf2; rw [if_neg ht])
    have HT := hide ht
    clear ht h
    go_enter Try.func66, Try.ntmps66
    go_wp2_with fail
    refine (iTourOk_any _ _ _ _ xs _ (HI.out.ext (Ext.one _ _))).mono ?_
    rw [decide_eq_false HT.out]
    rintro e w1 ⟨rfl, hE1⟩
    go_wp2
    go_ret
    rw [HV.out]
    exact RetI.mk rfl (OwI.nil _ _) ((Ext.one _ _).trans hE1)

end Go.Proofs.Ytbaljgdepicigaa
