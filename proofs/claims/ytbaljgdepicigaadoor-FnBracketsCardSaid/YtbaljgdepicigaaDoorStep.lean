/-
  Appends of ints as steps of regions that draw their order.
-/
import Derived.Test.YtbaljgdepicigaaDoorBase
import Derived.Test.YtbaljgdepicigaaDoorMgA
import Derived.Test.YtbaljgdepicigaaDoorAid
namespace Go.Proofs.YtbaljgdepicigaaDoor
open Go.RowKit
set_option linter.unusedVariables false

theorem step_push_ints {ops : Array Oper} {o : Oper} {a : Act} {K : Act → World → Prop} {Q : Exit → Act → World → Prop} {F : Prop} {w : World} {base : Nat} {A : Option Addr} {n c : Nat} {xs : List Int} (hgd : o.guard = none) (s x : Operand)
    (ho : o.op = .call { callee := .builtin .append, args := #[s, x], argTypes := #[23, 23] })
    (hs : a.eval s = .slice A n c) (h : OwI w base A n c xs) (A2 : Option Addr) (m c2 : Nat) (ys : List Int) (hx : a.eval x = .slice A2 m c2) (hr : Ints w A2 m c2 ys)
    (hsz : n + m ≤ 4294967296) (hbase : base ≤ w.heap.size)
    (hk : ∀ A' c' w', OwI w' base A' (n + m) c' (xs ++ ys) → w.grownBy w' (A.map (·.block)) → (A'.map (·.block) = A.map (·.block) ∨ A'.map (·.block) = some w.heap.size) →
      K (a.put o.dst (.slice A' (n + m) c')) w') : if Region.wanted o (yielded ops a.tmps) = true then Oper.wp Tryd.prog o a w K Q else F := by
  obtain ⟨i0, hi0, hz0, hz1, hz2⟩ := info_parts info_int
  refine step_push_any hgd s x 23 ho i0 _ 8 Tryd.underlying23 hi0 hz0 hz1 hz2 rfl hs h.ow A2 m c2 _ hx hr.rd (ints_oneCell' _) (by omega) (by omega) hbase ?_
  intro A' c' w' h1 h2 h3
  refine hk A' c' w' ⟨by rw [List.map_append]; exact h1, fun y hy => ?_⟩ h2 h3
  rcases List.mem_append.1 hy with hy | hy
  · exact h.wf y hy
  · exact hr.wf y hy

/-! ### Regions whose operations only read or make new memory: one walk, in the order of the text -/
/-- The worlds in which what lay in W lies. -/
structure After (W : World) where
  val : World
  property : Ext W val
instance (W : World) : Nonempty (After W) := ⟨⟨W, Ext.refl W⟩⟩
theorem wp_region_ext {P : Program} {id : Nat} {Q : Exit → Act → World → Prop} {a : Act} {w : World} {l : List Oper} (hm : P.follows .mixedOrders = true) (hB : Region.lexB .any l.toArray = true)
    (h : wpQuiet P l.toArray (fun w' => ∃ e : After w, w' = e.val) (fun a' => ∀ w', (∃ e : After w, w' = e.val) → Q .normal a' w') l a) : (Code.region id l.toArray true).wp P Q a w :=
  wp_region_quiet (C := fun w' => ∃ e : After w, w' = e.val) hm hB ⟨⟨w.drew, (Ext.refl w).drew⟩, rfl⟩ (by simpa using h)
theorem after_call {P : Program} {f : FuncId} {args : Array Value} {W : World} {e : After W} {v : Value} (h : Calls P f args e.val fun r w'' => r = .returned v ∧ Ext e.val w'') :
    Calls P f args e.val fun r w'' => r = .returned v ∧ ∃ e2 : After W, w'' = e2.val := h.mono fun _ w'' ⟨a, b⟩ => ⟨a, ⟨w'', e.property.trans b⟩, rfl⟩
theorem after_pure {P : Program} {f : FuncId} {args : Array Value} {W : World} {e : After W} {v : Value} (h : Calls P f args e.val fun r w'' => r = .returned v ∧ e.val = w'') :
    Calls P f args e.val fun r w'' => r = .returned v ∧ ∃ e2 : After W, w'' = e2.val := h.mono fun _ w'' ⟨a, b⟩ => ⟨a, e, b.symm⟩
theorem after_cell {W : World} {k o : Nat} {v : Value} (h : W.cell? ⟨k, o, none⟩ = some v) : ∀ e : After W, e.val.cell? ⟨k, o, none⟩ = some v := fun e => e.property.get h

end Go.Proofs.YtbaljgdepicigaaDoor
