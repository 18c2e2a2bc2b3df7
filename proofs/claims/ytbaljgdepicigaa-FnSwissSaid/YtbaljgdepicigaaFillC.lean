/-
  The program's iterator over pairings keeps its promise; the maker of the iterator.
-/
import Derived.Test.YtbaljgdepicigaaBase
import Derived.Test.YtbaljgdepicigaaMathA
import Derived.Test.YtbaljgdepicigaaMathD
import Derived.Test.YtbaljgdepicigaaLib
import Derived.Test.YtbaljgdepicigaaAid
import Derived.Test.YtbaljgdepicigaaStep
import Derived.Test.YtbaljgdepicigaaGrid
import Derived.Test.YtbaljgdepicigaaLibF
import Derived.Test.YtbaljgdepicigaaMathB
import Derived.Test.YtbaljgdepicigaaMathU
import Derived.Test.YtbaljgdepicigaaMathS
import Derived.Test.YtbaljgdepicigaaMathP
import Derived.Test.YtbaljgdepicigaaSwiss
import Derived.Test.YtbaljgdepicigaaSwissB
import Derived.Test.YtbaljgdepicigaaRangeA
import Derived.Test.YtbaljgdepicigaaFillA
import Derived.Test.YtbaljgdepicigaaFillB
namespace Go.Proofs.Ytbaljgdepicigaa
open Go.RowKit
set_option linter.unusedVariables false
set_option maxRecDepth 100000

-- impl.pairings$1
set_option maxHeartbeats 400000 in
theorem pairings_gives {lo hi bO bM co cm n : Nat} {Ao Am : Option Addr} {order ms : List Int} (w : World) (hn : n = 2 ∨ n = 4 ∨ n = 6 ∨ n = 8) (hord : ordOf n order) (hml : ms.length = n) (hmb : ∀ m ∈ ms, 0 ≤ m ∧ m ≤ 255)
    (h0 : w.cell? ⟨bO, 0, none⟩ = some (.slice Ao n co)) (h1 : w.cell? ⟨bM, 0, none⟩ = some (.slice Am n cm)) (h2 : Ints w Ao n co order) (h3 : Ints w Am n cm ms)
    (hhi : hi ≤ w.heap.size) (hoO : ¬ (lo ≤ bO ∧ bO < hi)) (hoM : ¬ (lo ≤ bM ∧ bM < hi)) (haO : ∀ k, Ao.map (·.block) = some k → ¬ (lo ≤ k ∧ k < hi)) (haM : ∀ k, Am.map (·.block) = some k → ¬ (lo ≤ k ∧ k < hi)) :
    Gives Try.prog 150 #[.pointer (some ⟨bO, 0, none⟩), .pointer (some ⟨bM, 0, none⟩)] (fillL order ms (n + 1) (List.replicate n (-1))) lo hi w := by
  intro nn l J Jx W hE hl1 hl2 hJ hJx hY hJ0
  show Calls Try.prog 150 #[.func (.yield l) #[] #[], .pointer (some ⟨bO, 0, none⟩), .pointer (some ⟨bM, 0, none⟩)] W _
  have hn8 : n ≤ 8 := by omega
  have hblk : ∀ {A : Option Addr} {c : Nat} {xs : List Int}, Ints w A n c xs → ∀ k, A.map (·.block) = some k → k < w.heap.size := fun h k hk => by
    obtain ⟨b, off, x, e, hb, _⟩ := h.get (show 0 < n by omega)
    rw [e] at hk; cases hk; exact hb
  have hbO := World.block_lt_of_cell? w ⟨bO, 0, none⟩ h0
  have hbM := World.block_lt_of_cell? w ⟨bM, 0, none⟩ h1
  have HAO := hide (hblk h2)
  have HAM := hide (hblk h3)
  have c0 := hE.get h0
  have c1 := hE.get h1
  have H2 := hide (h2.ext hE)
  have H3 := hide (h3.ext hE)
  have HN := hide hn
  have HEX := hide hE
  have HL1 := hide (show Ints ((W.alloc (.cells #[.func (.yield l) #[] #[]] 85)).alloc (.cells #[.int .i64 (-1)] 3)) (some ⟨W.heap.size + 1, 0, none⟩) 1 1 [-1] from by
    have := (ints_lit1 (W.alloc (.cells #[.func (.yield l) #[] #[]] 85)) (base := 0) (-1) ⟨by omega, by omega⟩ (Nat.zero_le _)).ints
    rwa [World.size_alloc] at this)
  have HJ := hide hJ
  have HJX := hide hJx
  have HY := hide hY
  have HJ0 := hide hJ0
  have HOR := hide hord
  have HMB := hide hmb
  have HHO := hide haO
  have HHM := hide haM
  clear hblk h0 h1 h2 h3 hE hn hJ hJx hY hJ0 hord hmb haO haM
  have c0' := ((Ext.one W (.cells #[.func (.yield l) #[] #[]] 85)).alloc (.cells #[.int .i64 (-1)] 3)).get c0
  go_enter Try.func150, Try.ntmps150
  go_wp2_with (go_at_call 151; refine (repeat_any n HN.out _ _ _ HL1.out).mono ?_; rintro e W1 ⟨q, rfl, hoq, hE1⟩; have hst := store_new W1 (.slice (some ⟨q, 0, none⟩) n n) .nilFunc (.func (.func 152) #[] #[.pointer (some ⟨bO, 0, none⟩), .pointer (some ⟨W1.heap.size, 0, none⟩), .pointer (some ⟨W.heap.size, 0, none⟩), .pointer (some ⟨bM, 0, none⟩), .pointer (some ⟨W1.heap.size + 1, 0, none⟩)]) 23 124 rfl)
  have HW := hide (show Ext W W1 from ((Ext.one W _).alloc _).trans hE1)
  have hq := hoq.block q rfl
  have hz := hE1.size
  simp only [World.size_alloc] at hq hz
  have hzw := HEX.out.size
  have HOQ := hide (hoq.mono (base' := 0) (Nat.zero_le _))
  have HXC := hide (show Ext W1 ((W1.alloc (.cells #[.slice (some ⟨q, 0, none⟩) n n] 23)).alloc (.cells #[.func (.func 152) #[] #[.pointer (some ⟨bO, 0, none⟩), .pointer (some ⟨W1.heap.size, 0, none⟩), .pointer (some ⟨W.heap.size, 0, none⟩), .pointer (some ⟨bM, 0, none⟩), .pointer (some ⟨W1.heap.size + 1, 0, none⟩)]] 124)) from (Ext.one W1 _).alloc _)
  have HY0 := hide (show W1.cell? ⟨W.heap.size, 0, none⟩ = some (.func (.yield l) #[] #[]) from hE1.get (by
    have := heap_alloc_new W (.cells #[.func (.yield l) #[] #[]] 85)
    refine (Ext.one _ _).get ?_
    rw [cell_of_row _ _ 0 _ _ _ this]; rfl))
  have HP0 := hide (show ((W1.alloc (.cells #[.slice (some ⟨q, 0, none⟩) n n] 23)).alloc (.cells #[.func (.func 152) #[] #[.pointer (some ⟨bO, 0, none⟩), .pointer (some ⟨W1.heap.size, 0, none⟩), .pointer (some ⟨W.heap.size, 0, none⟩), .pointer (some ⟨bM, 0, none⟩), .pointer (some ⟨W1.heap.size + 1, 0, none⟩)]] 124)).cell? ⟨W1.heap.size, 0, none⟩ = some (.slice (some ⟨q, 0, none⟩) n n) from (Ext.one _ _).get (by
    have := heap_alloc_new W1 (.cells #[.slice (some ⟨q, 0, none⟩) n n] 23)
    rw [cell_of_row _ _ 0 _ _ _ this]; rfl))
  have HF0 := hide (show ((W1.alloc (.cells #[.slice (some ⟨q, 0, none⟩) n n] 23)).alloc (.cells #[.func (.func 152) #[] #[.pointer (some ⟨bO, 0, none⟩), .pointer (some ⟨W1.heap.size, 0, none⟩), .pointer (some ⟨W.heap.size, 0, none⟩), .pointer (some ⟨bM, 0, none⟩), .pointer (some ⟨W1.heap.size + 1, 0, none⟩)]] 124)).cell? ⟨W1.heap.size + 1, 0, none⟩ = some (.func (.func 152) #[] #[.pointer (some ⟨bO, 0, none⟩), .pointer (some ⟨W1.heap.size, 0, none⟩), .pointer (some ⟨W.heap.size, 0, none⟩), .pointer (some ⟨bM, 0, none⟩), .pointer (some ⟨W1.heap.size + 1, 0, none⟩)]) from by
    have := heap_alloc_new (W1.alloc (.cells #[.slice (some ⟨q, 0, none⟩) n n] 23)) (.cells #[.func (.func 152) #[] #[.pointer (some ⟨bO, 0, none⟩), .pointer (some ⟨W1.heap.size, 0, none⟩), .pointer (some ⟨W.heap.size, 0, none⟩), .pointer (some ⟨bM, 0, none⟩), .pointer (some ⟨W1.heap.size + 1, 0, none⟩)]] 124)
    rw [World.size_alloc] at this
    rw [cell_of_row _ _ 0 _ _ _ this]; rfl)
  clear hoq hE1
  have HST := hide (show FillSt l q bO W1.heap.size W.heap.size bM (W1.heap.size + 1) Ao co order Am cm ms n ((W1.alloc (.cells #[.slice (some ⟨q, 0, none⟩) n n] 23)).alloc (.cells #[.func (.func 152) #[] #[.pointer (some ⟨bO, 0, none⟩), .pointer (some ⟨W1.heap.size, 0, none⟩), .pointer (some ⟨W.heap.size, 0, none⟩), .pointer (some ⟨bM, 0, none⟩), .pointer (some ⟨W1.heap.size + 1, 0, none⟩)]] 124)) (List.replicate n (-1)) from
    ⟨HXC.out.get (HW.out.get c0), HP0.out, HXC.out.get HY0.out, HXC.out.get (HW.out.get c1), HF0.out, (H2.out.ext HW.out).ext HXC.out, (H3.out.ext HW.out).ext HXC.out, HOQ.out.ext HXC.out⟩)
  have HFO := hide (show FillOut lo hi l q bO W1.heap.size W.heap.size bM (W1.heap.size + 1) W.heap.size Ao Am from
    ⟨by omega, by omega, by omega, by omega, by omega, by omega, fun k hk => by have := HHO.out k hk; have := HAO.out k hk; omega, fun k hk => by have := HHM.out k hk; have := HAM.out k hk; omega, by omega⟩)
  have HJC := hide (HJ.out _ _ _ HJ0.out (HW.out.trans HXC.out))
  have hzc : W.heap.size ≤ ((W1.alloc (.cells #[.slice (some ⟨q, 0, none⟩) n n] 23)).alloc (.cells #[.func (.func 152) #[] #[.pointer (some ⟨bO, 0, none⟩), .pointer (some ⟨W1.heap.size, 0, none⟩), .pointer (some ⟨W.heap.size, 0, none⟩), .pointer (some ⟨bM, 0, none⟩), .pointer (some ⟨W1.heap.size + 1, 0, none⟩)]] 124)).heap.size := Nat.le_trans HW.out.size HXC.out.size
  have C := hide (fill_any HFO.out HOR.out hn8 hml HMB.out (fillL order ms (n + 1) (List.replicate n (-1))) J Jx HJ.out HJX.out HY.out (n + 1) (List.replicate n (-1)) [] _ (partP_start n) (nfree_start n) HST.out HJC.out (List.prefix_refl _) hzc)
  refine C.out.mono ?_
  rintro e W5 ⟨_, _, (⟨rfl, hj5⟩ | ⟨rfl, S, pre', x, _, hpp, hx5⟩)⟩
  · go_wp2
    go_end0
    exact ⟨⟨_, rfl⟩, .inl hj5⟩
  · go_wp2
    go_end0
    exact ⟨⟨_, rfl⟩, .inr ⟨S, pre', x, hpp, hx5⟩⟩
-- impl.pairings
theorem pairings_any (Ao : Option Addr) (n co : Nat) (Am : Option Addr) (m cm : Nat) (w : World) :
    Calls Try.prog 82 #[.slice Ao n co, .slice Am m cm] w fun e w' => ∃ bO bM, e = .returned (.func (.func 150) #[] #[.pointer (some ⟨bO, 0, none⟩), .pointer (some ⟨bM, 0, none⟩)]) ∧
      w.heap.size ≤ bO ∧ w.heap.size ≤ bM ∧ w'.cell? ⟨bO, 0, none⟩ = some (.slice Ao n co) ∧ w'.cell? ⟨bM, 0, none⟩ = some (.slice Am m cm) ∧ Ext w w' := by
  go_enter Try.func82, Try.ntmps82
  go_wp2
  go_ret
  exact ⟨w.heap.size, w.heap.size + 1, rfl, Nat.le_refl _, by omega, by simp, by simp, (Ext.one _ _).alloc _⟩

end Go.Proofs.Ytbaljgdepicigaa
