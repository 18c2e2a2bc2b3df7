/-
  Contract of the function that asks who beats whom.
-/
import Derived.Deep.RegionHeld3
import Derived.Laws.ShiftsVar
import Derived.Test.YtbaljgdepicigaaDoorBase
import Derived.Test.YtbaljgdepicigaaDoorMgA
import Derived.Test.YtbaljgdepicigaaDoorLib
import Derived.Test.YtbaljgdepicigaaDoorAid
import Derived.Test.YtbaljgdepicigaaDoorStep
import Derived.Test.YtbaljgdepicigaaDoorGrid
import Derived.Test.YtbaljgdepicigaaDoorLibF
import Derived.Test.YtbaljgdepicigaaDoorSeed
import Derived.Test.YtbaljgdepicigaaDoorTour
import Derived.Test.YtbaljgdepicigaaDoorTourB
import Derived.Test.YtbaljgdepicigaaDoorDblB
namespace Go.Proofs.YtbaljgdepicigaaDoor
open Go.RowKit
set_option linter.unusedVariables false
set_option maxRecDepth 100000

-- impl.DoesBeat
theorem iDoes_any (m : Nat) (A : Option Addr) (c : Nat) (xs : List Int) (a b : Nat) (w : World) (ht : tourOk (m : Int) xs) (h : Ints w A m c xs) (ha : a < m) (hb : b < m) :
    Calls Tryd.prog 24 #[.agg #[.int .i64 (m : Int), .slice A m c], .int .i64 (a : Int), .int .i64 (b : Int)] w fun e w' => e = .returned (.bool (decide (bts xs a b))) ∧ Ext w w' := by
  have hsz := tourOk_size ht
  have hl := h.len
  have HI := hide h
  have HT := hide ht
  have HR := hide (tourOk_row ht)
  have HA := hide (show decide (0 ≤ (a : Int) ∧ (a : Int) ≤ (m : Int) - 1) = true from decide_eq_true (by omega))
  have HB := hide (show decide (0 ≤ (b : Int) ∧ (b : Int) ≤ (m : Int) - 1) = true from decide_eq_true (by omega))
  have hm8 : m ≤ 8 := by omega
  have hb64 : b < 64 := by omega
  clear h ht hl hsz
  obtain ⟨W, hW⟩ : ∃ W : World, W = w.alloc (.cells #[.int .i64 (m : Int), .slice A m c] 26) := ⟨_, rfl⟩
  have HE := hide (show Ext w W by rw [hW]; exact Ext.one _ _)
  have B0 := hide (show W.cell? ⟨w.heap.size, 0, none⟩ = some (.int .i64 (m : Int)) by rw [hW]; simp)
  have B1 := hide (show W.cell? ⟨w.heap.size, 1, none⟩ = some (.slice A m c) by rw [hW]; simp)
  have HW := hide hW
  clear hW
  go_enter Tryd.func24, Tryd.ntmps24
  go_wp2_with fail
  rw [← HW.out]
  refine (iTourOk_any _ _ _ _ xs _ (HI.out.ext HE.out)).mono ?_
  rw [decide_eq_true HT.out]
  rintro e w1 ⟨rfl, hE1⟩
  have d0 := hE1.get B0.out
  have d1 := hE1.get B1.out
  have HE1 := hide (HE.out.trans hE1)
  clear hE1
  go_wp2_with fail
  refine (has_any _ _ _ _ _ _ ⟨by omega, by omega⟩).mono ?_
  rw [HA.out]
  rintro e w2 ⟨rfl, hE2⟩
  have e0 := hE2.get d0
  have e1 := hE2.get d1
  have HE2 := hide (HE1.out.trans hE2)
  clear hE2 d0 d1
  go_wp2_with fail
  refine (has_any _ _ _ _ _ _ ⟨by omega, by omega⟩).mono ?_
  rw [HB.out]
  rintro e w3 ⟨rfl, hE3⟩
  have d0 := hE3.get e0
  have d1 := hE3.get e1
  have HE3 := hide (HE2.out.trans hE3)
  clear hE3 e0 e1
  go_wp2_with fail
  refine (iBeats_any _ _ _ _ xs _ _ _ (HI.out.ext HE3.out) ha hb64 (fun x hx => (HR.out x hx).1)).mono ?_
  rintro e w4 ⟨rfl, hE4⟩
  go_wp2
  go_ret
  exact ⟨rfl, HE3.out.trans hE4⟩

end Go.Proofs.YtbaljgdepicigaaDoor
