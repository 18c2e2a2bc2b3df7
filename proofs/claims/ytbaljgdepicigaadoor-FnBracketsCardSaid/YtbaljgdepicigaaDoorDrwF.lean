/-
  Contract of the function that makes a tour of a given number of players.
-/
import Derived.Deep.RegionLaw
import Derived.Deep.RegionHeld3
import Derived.Laws.ShiftsVar
import Derived.Test.YtbaljgdepicigaaDoorBase
import Derived.Test.YtbaljgdepicigaaDoorMgA
import Derived.Test.YtbaljgdepicigaaDoorLib
import Derived.Test.YtbaljgdepicigaaDoorAid
import Derived.Test.YtbaljgdepicigaaDoorStep
import Derived.Test.YtbaljgdepicigaaDoorGrid
import Derived.Test.YtbaljgdepicigaaDoorLibF
import Derived.Test.YtbaljgdepicigaaDoorSeed
import Derived.Test.YtbaljgdepicigaaDoorTour
import Derived.Test.YtbaljgdepicigaaDoorTourB
import Derived.Test.YtbaljgdepicigaaDoorCurA
import Derived.Test.YtbaljgdepicigaaDoorDrwA
import Derived.Test.YtbaljgdepicigaaDoorDrwB
namespace Go.Proofs.YtbaljgdepicigaaDoor
open Go.RowKit
set_option linter.unusedVariables false
set_option maxRecDepth 100000

-- spec.MakeOf
set_option maxHeartbeats 1000000 in
theorem makeOf_any (A : Option Addr) (n c : Nat) (bs : List Int) (m size : Nat) (w : World) (h : Bts w A n c bs) (hm : m ≤ 1000) (h1 : 1 ≤ size) (h8 : size ≤ 8) :
    Calls Tryd.prog 6 #[.slice A n c, .int .i64 (m : Int), .int .i64 (size : Int)] w (RetTour w size) := by
  obtain ⟨W, hW⟩ : ∃ W : World, W = w.alloc (.cells #[.int .i64 0, .slice none 0 0] 26) := ⟨_, rfl⟩
  have HE := hide (show Ext w W by rw [hW]; exact Ext.one _ _)
  have HZ := hide (show W.heap.size = w.heap.size + 1 by rw [hW]; simp)
  have HB := hide (show W.heap[w.heap.size]? = some (.cells #[.int .i64 0, .slice none 0 0] 26 (0, 0)) by rw [hW]; exact heap_new w _)
  have C := hide (l32New_any A n c bs m W (h.ext HE.out) hm)
  have HW := hide hW
  clear h hW
  by_cases hs : size = 1
  · subst hs
    go_enter Tryd.func6, Tryd.ntmps6
    go_wp2_with fail
    rw [← HW.out]
    refine C.out.mono ?_
    rintro e w1 ⟨p, rfl, hC1⟩
    have HC1 := hide hC1
    clear hC1
    have CB1 := hide (show Calls Tryd.prog 40 #[.pointer (some ⟨p, 0, none⟩), .int .i64 256] w1 _ from l01Below_any W w1 p 256 HC1.out (by omega) (by omega))
    go_wp2_with fail
    refine CB1.out.mono ?_
    rintro e w2 ⟨x2, rfl, hx2, hC2, hg2⟩
    have HC2 := hide hC2
    clear hC2 hg2 CB1
    have CB2 := hide (show Calls Tryd.prog 40 #[.pointer (some ⟨p, 0, none⟩), .int .i64 256] w2 _ from l01Below_any W w2 p 256 HC2.out (by omega) (by omega))
    go_wp2_with fail
    refine CB2.out.mono ?_
    rintro e w3 ⟨x3, rfl, hx3, hC3, hg3⟩
    have HC3 := hide hC3
    clear hC3 hg3 CB2
    have CB3 := hide (show Calls Tryd.prog 40 #[.pointer (some ⟨p, 0, none⟩), .int .i64 256] w3 _ from l01Below_any W w3 p 256 HC3.out (by omega) (by omega))
    go_wp2_with fail
    refine CB3.out.mono ?_
    rintro e w4 ⟨x4, rfl, hx4, hC4, hg4⟩
    have HC4 := hide hC4
    clear hC4 hg4 CB3
    have CB4 := hide (show Calls Tryd.prog 40 #[.pointer (some ⟨p, 0, none⟩), .int .i64 16] w4 _ from l01Below_any W w4 p 16 HC4.out (by omega) (by omega))
    go_wp2_with fail
    refine CB4.out.mono ?_
    rintro e w5 ⟨x5, rfl, hx5, hC5, hg5⟩
    have HC5 := hide hC5
    clear hC5 hg5 CB4
    have CF := hide (fun v (hv : 0 ≤ v ∧ v ≤ 4611686018427387904) => show Calls Tryd.prog 39 #[.int .i64 1, .int .i64 v] w5 _ from l02OfV_any 1 v w5 (by omega) (by omega) hv)
    go_wp2_with fail
    refine (CF.out _ (by omega)).mono ?_
    rintro e w6 ⟨xs, B, d, ht, rfl, ho, hE6⟩
    have HT := hide ht
    have HO := hide ho
    have HX := hide (HC5.out.old.1.trans hE6)
    have hz5 := HC5.out.old.1.size
    obtain ⟨c00, c01, f00, f01, s0⟩ := two_cells HX.out HB.out
    clear ht ho hE6
    go_wp2
    refine bodyPost_ret (v := .agg #[.int .i64 1, .slice B 1 d]) (by simp [results, Tryd.results6, go_sem, c00, c01]) rfl ⟨xs, B, d, HT.out, rfl, ?_, ((HE.out.trans HX.out).setCell (p := ⟨w.heap.size, 0, none⟩) (Nat.le_refl _) _).setCell (p := ⟨w.heap.size, 1, none⟩) (Nat.le_refl _) _⟩
    exact (HO.out.mono (by have := HZ.out; omega)).stored _ _
  · have e1 : min (size : Int) 8 = (size : Int) := by omega
    have e2 : ¬ (size : Int) ≤ 1 := by omega
    go_enter Tryd.func6, Tryd.ntmps6
    go_wp2_with fail
    rw [← HW.out]
    refine C.out.mono ?_
    rintro e w1 ⟨p, rfl, hC1⟩
    have HC1 := hide hC1
    clear hC1
    have CB1 := hide (show Calls Tryd.prog 40 #[.pointer (some ⟨p, 0, none⟩), .int .i64 256] w1 _ from l01Below_any W w1 p 256 HC1.out (by omega) (by omega))
    go_wp2_with fail
    refine CB1.out.mono ?_
    rintro e w2 ⟨x2, rfl, hx2, hC2, hg2⟩
    have HC2 := hide hC2
    clear hC2 hg2 CB1
    have CB2 := hide (show Calls Tryd.prog 40 #[.pointer (some ⟨p, 0, none⟩), .int .i64 256] w2 _ from l01Below_any W w2 p 256 HC2.out (by omega) (by omega))
    go_wp2_with fail
    refine CB2.out.mono ?_
    rintro e w3 ⟨x3, rfl, hx3, hC3, hg3⟩
    have HC3 := hide hC3
    clear hC3 hg3 CB2
    have CB3 := hide (show Calls Tryd.prog 40 #[.pointer (some ⟨p, 0, none⟩), .int .i64 256] w3 _ from l01Below_any W w3 p 256 HC3.out (by omega) (by omega))
    go_wp2_with fail
    refine CB3.out.mono ?_
    rintro e w4 ⟨x4, rfl, hx4, hC4, hg4⟩
    have HC4 := hide hC4
    clear hC4 hg4 CB3
    have CB4 := hide (show Calls Tryd.prog 40 #[.pointer (some ⟨p, 0, none⟩), .int .i64 16] w4 _ from l01Below_any W w4 p 16 HC4.out (by omega) (by omega))
    go_wp2_with fail
    refine CB4.out.mono ?_
    rintro e w5 ⟨x5, rfl, hx5, hC5, hg5⟩
    have HC5 := hide hC5
    clear hC5 hg5 CB4
    have CF := hide (fun v (hv : 0 ≤ v ∧ v ≤ 4611686018427387904) => l02OfV_any size v w5 h1 h8 hv)
    go_wp2_with fail
    refine (CF.out _ (by omega)).mono ?_
    rintro e w6 ⟨xs, B, d, ht, rfl, ho, hE6⟩
    have HT := hide ht
    have HO := hide ho
    have HX := hide (HC5.out.old.1.trans hE6)
    have hz5 := HC5.out.old.1.size
    obtain ⟨c00, c01, f00, f01, s0⟩ := two_cells HX.out HB.out
    clear ht ho hE6
    go_wp2
    refine bodyPost_ret (v := .agg #[.int .i64 (size : Int), .slice B size d]) (by simp [results, Tryd.results6, go_sem, c00, c01]) rfl ⟨xs, B, d, HT.out, rfl, ?_, ((HE.out.trans HX.out).setCell (p := ⟨w.heap.size, 0, none⟩) (Nat.le_refl _) _).setCell (p := ⟨w.heap.size, 1, none⟩) (Nat.le_refl _) _⟩
    exact (HO.out.mono (by have := HZ.out; omega)).stored _ _

end Go.Proofs.YtbaljgdepicigaaDoor
