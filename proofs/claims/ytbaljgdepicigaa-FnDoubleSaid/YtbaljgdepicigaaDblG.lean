/-
  Contracts of the functions that play a double elimination in a given order.
-/
import Derived.Laws.ShiftsVar
import Derived.Test.YtbaljgdepicigaaBase
import Derived.Test.YtbaljgdepicigaaMathA
import Derived.Test.YtbaljgdepicigaaMathD
import Derived.Test.YtbaljgdepicigaaLib
import Derived.Test.YtbaljgdepicigaaAid
import Derived.Test.YtbaljgdepicigaaStep
import Derived.Test.YtbaljgdepicigaaGrid
import Derived.Test.YtbaljgdepicigaaLibF
import Derived.Test.YtbaljgdepicigaaLad
import Derived.Test.YtbaljgdepicigaaMathB
import Derived.Test.YtbaljgdepicigaaMathU
import Derived.Test.YtbaljgdepicigaaMathW
import Derived.Test.YtbaljgdepicigaaMathZ
import Derived.Test.YtbaljgdepicigaaMathY
import Derived.Test.YtbaljgdepicigaaPop
import Derived.Test.YtbaljgdepicigaaMathG
import Derived.Test.YtbaljgdepicigaaMathX
import Derived.Test.YtbaljgdepicigaaDblA
import Derived.Test.YtbaljgdepicigaaSeed
import Derived.Test.YtbaljgdepicigaaTour
import Derived.Test.YtbaljgdepicigaaTourB
import Derived.Test.YtbaljgdepicigaaDblB
import Derived.Test.YtbaljgdepicigaaDblD
import Derived.Test.YtbaljgdepicigaaDblC
import Derived.Test.YtbaljgdepicigaaDblE
import Derived.Test.YtbaljgdepicigaaDblF
namespace Go.Proofs.Ytbaljgdepicigaa
open Go.RowKit
set_option linter.unusedVariables false

-- words of orders
def orderT (s : Int) (xs o : List Int) : Prop := tourOk s xs ∧ (o.length : Int) = s ∧ isOrder o
instance (s : Int) (xs o : List Int) : Decidable (orderT s xs o) := by unfold orderT; infer_instance
def orderG (s : Int) (xs o : List Int) : List (List Int) := if orderT s xs o then doubleG xs o else []
theorem order_nat {o : List Int} {n : Nat} (h : isOrder o) (hl : o.length = n) : ∀ x ∈ o, ∃ p : Nat, x = (p : Int) ∧ p < n := fun x hx => by
  have h1 := h.1 x hx
  exact ⟨x.toNat, by omega, by omega⟩
/-- Rows and a yes or no come back. -/
def RetGB (w : World) (g : List (List Int)) (b : Bool) (e : Ending) (w' : World) : Prop := ∃ A c, e = .returned (.tuple #[.slice A g.length c, .bool b]) ∧ OwG w' w.heap.size w'.heap.size A g.length c g ∧ Ext w w'
theorem RetGB.mk {w w' : World} {g : List (List Int)} {b : Bool} {e : Ending} {A : Option Addr} {n c : Nat} {b' : Bool} (he : e = .returned (.tuple #[.slice A n c, .bool b'])) (hb : b' = b) (hg : OwG w' w.heap.size w'.heap.size A n c g) (hE : Ext w w') : RetGB w g b e w' := by
  have h1 := hg.len
  subst h1 hb
  exact ⟨A, c, he, hg, hE⟩
-- impl.OrderOk
theorem iOrderOk_any (s : Int) (A : Option Addr) (n c : Nat) (xs : List Int) (Ao : Option Addr) (no co : Nat) (o : List Int) (w : World) (h : Ints w A n c xs) (ho : Ints w Ao no co o) :
    Calls Try.prog 139 #[.agg #[.int .i64 s, .slice A n c], .slice Ao no co] w fun e w' => e = .returned (.bool (decide (orderT s xs o))) ∧ Ext w w' := by
  have HI := hide h
  have HO := hide ho
  have HL := hide ho.len
  clear h ho
  obtain ⟨W, hW⟩ : ∃ W : World, W = w.alloc (.cells #[.int .i64 s, .slice A n c] 33) := ⟨_, rfl⟩
  have HE := hide (show Ext w W by rw [hW]; exact Ext.one _ _)
  have B0 := hide (show W.cell? ⟨w.heap.size, 0, none⟩ = some (.int .i64 s) by rw [hW]; simp)
  have HW := hide hW
  clear hW
  by_cases ht : tourOk s xs
  · have HT := hide ht
    clear ht
    go_enter Try.func139, Try.ntmps139
    go_wp2_with fail
    rw [← HW.out]
    refine (iTourOk_any _ _ _ _ xs _ (HI.out.ext HE.out)).mono ?_
    rw [decide_eq_true HT.out]
    rintro e w1 ⟨rfl, hE1⟩
    have c0 := hE1.get B0.out
    have HE1 := hide (HE.out.trans hE1)
    clear hE1
    by_cases hl : (no : Int) = s
    · have hbe : ((no : Int) == s) = true := by simpa using hl
      have HLS := hide hl
      clear hl
      go_wp2_with fail
      refine (isOrder_any _ _ _ o _ (HO.out.ext HE1.out)).mono ?_
      rintro e w' ⟨rfl, rfl⟩
      go_wp2
      go_ret
      exact ⟨ret_bool (by rw [decide_eq_decide]; exact ⟨fun hh => ⟨HT.out, by rw [HL.out]; exact HLS.out, hh⟩, fun hh => hh.2.2⟩), HE1.out⟩
    · have hbe : ((no : Int) == s) = false := by simpa using hl
      have HLS := hide hl
      clear hl
      go_wp2
      go_ret
      exact ⟨ret_bool (by symm; rw [decide_eq_false_iff_not]; exact fun hh => HLS.out (by rw [← HL.out]; exact hh.2.1)), HE1.out⟩
  · have HT := hide ht
    clear ht
    go_enter Try.func139, Try.ntmps139
    go_wp2_with fail
    rw [← HW.out]
    refine (iTourOk_any _ _ _ _ xs _ (HI.out.ext HE.out)).mono ?_
    rw [decide_eq_false HT.out]
    rintro e w1 ⟨rfl, hE1⟩
    go_wp2
    go_ret
    exact ⟨ret_bool (by symm; rw [decide_eq_false_iff_not]; exact fun hh => HT.out hh.1), HE.out.trans hE1⟩
-- DoubleOrder both impl.DoubleOrder
theorem iDoubleOrder_any (s : Int) (A : Option Addr) (n c : Nat) (xs : List Int) (Ao : Option Addr) (no co : Nat) (o : List Int) (w : World) (h : Ints w A n c xs) (ho : Ints w Ao no co o) (hsz : no ≤ 4194304) :
    Calls Try.prog 72 #[.agg #[.int .i64 s, .slice A n c], .slice Ao no co] w (RetGB w (orderG s xs o) (decide (orderT s xs o))) := by
  have HI := hide h
  have HO := hide ho
  have HL := hide ho.len
  have HXL := hide h.len
  clear h ho
  obtain ⟨W, hW⟩ : ∃ W : World, W = w.alloc (.cells #[.int .i64 s, .slice A n c] 33) := ⟨_, rfl⟩
  have HE := hide (show Ext w W by rw [hW]; exact Ext.one _ _)
  have B0 := hide (show W.cell? ⟨w.heap.size, 0, none⟩ = some (.int .i64 s) by rw [hW]; simp)
  have B1 := hide (show W.cell? ⟨w.heap.size, 1, none⟩ = some (.slice A n c) by rw [hW]; simp)
  have HW := hide hW
  clear hW
  have HOK := hide (fun (w' : World) (hE : Ext w w') => show Calls Try.prog 139 #[.agg #[.int .i64 s, .slice A n c], .slice Ao no co] w' fun e w'' => e = .returned (.bool (decide (orderT s xs o))) ∧ Ext w' w'' from by first | exact iOrderOk_any s A n c xs Ao no co o w' (HI.out.ext hE) (HO.out.ext hE) | exact iOrderOk_any s A n c xs Ao no co o w' (HI.out.ext hE) (HO.out.ext hE) hsz)
  by_cases ht : orderT s xs o
  · have HT := hide ht
    have HV := hide (show orderG s xs o = doubleG xs o from if_pos ht)
    have hz := tourOk_size ht.1
    have HN8 := hide (show o.length ≤ 8 by have := ht.2.1; omega)
    have HON := hide (order_nat (n := n) ht.2.2 (by have := ht.2.1; have := HXL.out; omega))
    clear ht hz
    go_enter Try.func72, Try.ntmps72
    go_wp2_with fail
    rw [← HW.out]
    refine (HOK.out _ HE.out).mono ?_
    rw [decide_eq_true HT.out]
    rintro e w1 ⟨rfl, hE1⟩
    have c0 := hE1.get B0.out
    have c1 := hE1.get B1.out
    have HE1 := hide (HE.out.trans hE1)
    clear hE1
    go_wp2_with fail
    first
      | (refine (double_any _ _ _ _ xs _ _ _ o _ HT.out.1 (HI.out.ext HE1.out) (HO.out.ext HE1.out) HON.out HN8.out HT.out.2.2.2).mono ?_
         rintro e w3 ⟨G, g, P, pd, rfl, hoG, hoP, hE3⟩)
      | (refine (l23Play_any _ _ _ _ xs _ _ _ o _ HT.out.1 (HI.out.ext HE1.out) (HO.out.ext HE1.out) HON.out HN8.out HT.out.2.2.2).mono ?_
         rintro e w3 ⟨G, g, rfl, hoG, hE3⟩)
    go_wp2
    go_ret2
    rw [HV.out]
    exact RetGB.mk rfl (decide_eq_true HT.out).symm (hoG.mono (by have := HE1.out.size; omega) (Nat.le_refl _)) (HE1.out.trans hE3)
  · have HT := hide ht
    have HV := hide (show orderG s xs o = [] from if_neg ht)
    clear ht
    go_enter Try.func72, Try.ntmps72
    go_wp2_with fail
    rw [← HW.out]
    refine (HOK.out _ HE.out).mono ?_
    rw [decide_eq_false HT.out]
    rintro e w1 ⟨rfl, hE1⟩
    go_wp2
    go_ret2
    rw [HV.out]
    exact RetGB.mk rfl (decide_eq_false HT.out).symm (OwG.nil _ _ _) (HE.out.trans hE1)

end Go.Proofs.Ytbaljgdepicigaa
