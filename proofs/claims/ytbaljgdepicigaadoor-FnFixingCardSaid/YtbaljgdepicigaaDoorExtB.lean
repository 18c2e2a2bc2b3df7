/-
  The program's iterator over orders keeps its promise; the maker of the iterator.
-/
import Derived.Laws.ShiftsVar
import Derived.Test.YtbaljgdepicigaaDoorBase
import Derived.Test.YtbaljgdepicigaaDoorMgA
import Derived.Test.YtbaljgdepicigaaDoorLib
import Derived.Test.YtbaljgdepicigaaDoorAid
import Derived.Test.YtbaljgdepicigaaDoorStep
import Derived.Test.YtbaljgdepicigaaDoorGrid
import Derived.Test.YtbaljgdepicigaaDoorLibF
import Derived.Test.YtbaljgdepicigaaDoorMgB
import Derived.Test.YtbaljgdepicigaaDoorRangeA
import Derived.Test.YtbaljgdepicigaaDoorExtA
namespace Go.Proofs.YtbaljgdepicigaaDoor
open Go.RowKit
set_option linter.unusedVariables false
set_option maxRecDepth 100000
attribute [local go_sem] Oper.semAt_some

-- impl.orders$1
set_option maxHeartbeats 1000000 in
theorem orders_gives {lo hi bL cl n : Nat} {Al : Option Addr} {list : List Int} (w : World) (hn8 : n ≤ 8) (hn0 : 0 < n) (hll : list.length = n) (hnd : list.Nodup)
    (h0 : w.cell? ⟨bL, 0, none⟩ = some (.slice Al n cl)) (h2 : Ints w Al n cl list)
    (hhi : hi ≤ w.heap.size) (hoL : ¬ (lo ≤ bL ∧ bL < hi)) (haL : ∀ k, Al.map (·.block) = some k → ¬ (lo ≤ k ∧ k < hi)) :
    Gives Tryd.prog 80 #[.pointer (some ⟨bL, 0, none⟩)] (extL list n []) lo hi w := by
  intro nn l J Jx W hE hl1 hl2 hJ hJx hY hJ0
  show Calls Tryd.prog 80 #[.func (.yield l) #[] #[], .pointer (some ⟨bL, 0, none⟩)] W _
  have hbL := World.block_lt_of_cell? w ⟨bL, 0, none⟩ h0
  have HAL := hide (show ∀ k, Al.map (·.block) = some k → k < w.heap.size from fun k hk => by
    obtain ⟨b, off, x, e, hb, _⟩ := h2.get hn0
    rw [e] at hk; cases hk; exact hb)
  have c0 := hE.get h0
  have H2 := hide (h2.ext hE)
  have HEX := hide hE
  have HJ := hide hJ
  have HJX := hide hJx
  have HY := hide hY
  have HJ0 := hide hJ0
  have HHL := hide haL
  have HND := hide hnd
  clear h0 h2 hE hJ hJx hY hJ0 haL hnd
  have hst := store_new (W.alloc (.cells #[.func (.yield l) #[] #[]] 67)) (.slice none 0 0) .nilFunc (.func (.func 81) #[] #[.pointer (some ⟨W.heap.size + 1, 0, none⟩), .pointer (some ⟨bL, 0, none⟩), .pointer (some ⟨W.heap.size, 0, none⟩), .pointer (some ⟨W.heap.size + 1 + 1, 0, none⟩)]) 23 86 rfl
  rw [World.size_alloc] at hst
  go_enter Tryd.func80, Tryd.ntmps80
  go_wp2_with (fail)
  have HWC := hide (show Ext W (((W.alloc (.cells #[.func (.yield l) #[] #[]] 67)).alloc (.cells #[.slice none 0 0] 23)).alloc (.cells #[.func (.func 81) #[] #[.pointer (some ⟨W.heap.size + 1, 0, none⟩), .pointer (some ⟨bL, 0, none⟩), .pointer (some ⟨W.heap.size, 0, none⟩), .pointer (some ⟨W.heap.size + 1 + 1, 0, none⟩)]] 86)) from ((Ext.one W _).alloc _).alloc _)
  have hzw := HEX.out.size
  have h1 := heap_alloc_new W (.cells #[.func (.yield l) #[] #[]] 67)
  have h2 := heap_alloc_new (W.alloc (.cells #[.func (.yield l) #[] #[]] 67)) (.cells #[.slice none 0 0] 23)
  have h3 := heap_alloc_new ((W.alloc (.cells #[.func (.yield l) #[] #[]] 67)).alloc (.cells #[.slice none 0 0] 23)) (.cells #[.func (.func 81) #[] #[.pointer (some ⟨W.heap.size + 1, 0, none⟩), .pointer (some ⟨bL, 0, none⟩), .pointer (some ⟨W.heap.size, 0, none⟩), .pointer (some ⟨W.heap.size + 1 + 1, 0, none⟩)]] 86)
  simp only [World.size_alloc] at h2 h3
  have HST := hide (show ExtSt l (W.heap.size + 1) bL W.heap.size (W.heap.size + 1 + 1) (W.heap.size + 3) Al cl list n (((W.alloc (.cells #[.func (.yield l) #[] #[]] 67)).alloc (.cells #[.slice none 0 0] 23)).alloc (.cells #[.func (.func 81) #[] #[.pointer (some ⟨W.heap.size + 1, 0, none⟩), .pointer (some ⟨bL, 0, none⟩), .pointer (some ⟨W.heap.size, 0, none⟩), .pointer (some ⟨W.heap.size + 1 + 1, 0, none⟩)]] 86)) [] from
    ⟨⟨none, 0, (Ext.one _ _).get (by rw [cell_of_row _ _ 0 _ _ _ h2]; rfl), OwI.nil _ _⟩,
     ((Ext.one _ _).frozen (p := ⟨W.heap.size + 1, 0, none⟩) (by simp)).trans (by unfold World.frozen?; simp only [h2]; rfl),
     HWC.out.get c0, ((Ext.one _ _).alloc _).get (by rw [cell_of_row _ _ 0 _ _ _ h1]; rfl), by rw [cell_of_row _ _ 0 _ _ _ h3]; rfl, H2.out.ext HWC.out⟩)
  have HFO := hide (show ExtOut lo hi l (W.heap.size + 1) bL W.heap.size (W.heap.size + 1 + 1) (W.heap.size + 3) W.heap.size Al from
    ⟨by omega, by omega, by omega, by omega, fun k hk => by have := HHL.out k hk; have := HAL.out k hk; omega, by omega, by omega, by omega⟩)
  have HJC := hide (HJ.out _ _ _ HJ0.out HWC.out)
  have hzc : W.heap.size + 3 ≤ ((((W.alloc (.cells #[.func (.yield l) #[] #[]] 67)).alloc (.cells #[.slice none 0 0] 23)).alloc (.cells #[.func (.func 81) #[] #[.pointer (some ⟨W.heap.size + 1, 0, none⟩), .pointer (some ⟨bL, 0, none⟩), .pointer (some ⟨W.heap.size, 0, none⟩), .pointer (some ⟨W.heap.size + 1 + 1, 0, none⟩)]] 86))).heap.size := by simp
  have C := hide (ext_any HFO.out hn8 hll HND.out (extL list n []) J Jx HJ.out HJX.out HY.out n [] [] _ (by simp) HST.out HJC.out (List.prefix_refl _) hzc (by omega))
  clear h1 h2 h3
  refine C.out.mono ?_
  rintro e W5 ⟨_, _, (⟨rfl, hj5⟩ | ⟨rfl, S, pre', x, _, hpp, hx5⟩)⟩
  · go_wp2
    go_end0
    exact ⟨⟨_, rfl⟩, .inl hj5⟩
  · go_wp2
    go_end0
    exact ⟨⟨_, rfl⟩, .inr ⟨S, pre', x, hpp, hx5⟩⟩
-- impl.orders
theorem orders_any (Al : Option Addr) (n cl : Nat) (w : World) :
    Calls Tryd.prog 48 #[.slice Al n cl] w fun e w' => ∃ bL, e = .returned (.func (.func 80) #[] #[.pointer (some ⟨bL, 0, none⟩)]) ∧
      w.heap.size ≤ bL ∧ w'.cell? ⟨bL, 0, none⟩ = some (.slice Al n cl) ∧ Ext w w' := by
  go_enter Tryd.func48, Tryd.ntmps48
  go_wp2
  go_ret
  exact ⟨w.heap.size, rfl, Nat.le_refl _, by simp, Ext.one _ _⟩

end Go.Proofs.YtbaljgdepicigaaDoor
