/-
  Contracts of the helpers of the laws: copies, comparisons, marks.
-/
import Derived.Test.YtbaljgdepicigaaDoorBase
import Derived.Test.YtbaljgdepicigaaDoorMgA
import Derived.Test.YtbaljgdepicigaaDoorLib
namespace Go.Proofs.YtbaljgdepicigaaDoor
open Go.RowKit
set_option linter.unusedVariables false

/-- A new slice of ints comes back. -/
def RetI (w : World) (xs : List Int) (e : Ending) (w' : World) : Prop := ∃ A c, e = .returned (.slice A xs.length c) ∧ OwI w' w.heap.size A xs.length c xs ∧ Ext w w'
theorem RetI.mk {w w' : World} {xs : List Int} {e : Ending} {A : Option Addr} {n c : Nat} (he : e = .returned (.slice A n c)) (ho : OwI w' w.heap.size A n c xs) (hE : Ext w w') : RetI w xs e w' := by
  have hl := ho.len
  subst hl
  exact ⟨A, c, he, ho, hE⟩
/-- A slice of the call's own whose block lies between lo and hi. -/
structure InI (w : World) (lo hi : Nat) (A : Option Addr) (n c : Nat) (xs : List Int) : Prop where
  ow : OwI w lo A n c xs
  top : ∀ k, A.map (·.block) = some k → k < hi
section
variable {w w' : World} {lo hi lo' hi' : Nat} {A A' : Option Addr} {n c n' c' : Nat} {xs xs' : List Int}
theorem InI.mk_ (h : OwI w lo A n c xs) : InI w lo w.heap.size A n c xs := ⟨h, fun k hk => (h.block k hk).2⟩
theorem InI.ints (h : InI w lo hi A n c xs) : Ints w A n c xs := h.ow.ints
theorem InI.ext (h : InI w lo hi A n c xs) (hE : Ext w w') : InI w' lo hi A n c xs := ⟨h.ow.ext hE, h.top⟩
theorem InI.sep (h : InI w lo hi A n c xs) (h' : InI w lo' hi' A' n' c' xs') (hd : hi ≤ lo' ∨ hi' ≤ lo) : A.map (·.block) ≠ A'.map (·.block) ∨ A = none := by
  cases hA : A.map (·.block) with
  | none => exact .inr (by cases A <;> simp_all)
  | some k =>
    refine .inl fun e => ?_
    have h1 := (h.ow.block k hA).1
    have h2 := h.top k hA
    have h3 := (h'.ow.block k e.symm).1
    have h4 := h'.top k e.symm
    omega
theorem InI.only {l u : Nat} (h : InI w lo hi A n c xs) (ho : Only l u w w') (hd : hi ≤ l ∨ u ≤ lo) : InI w' lo hi A n c xs :=
  ⟨⟨h.ow.ow.keep fun k hk => ho.block k (h.ow.block k hk).2 (by have := (h.ow.block k hk).1; have := h.top k hk; omega), h.ow.wf⟩, h.top⟩
theorem InI.grown (h : InI w lo hi A n c xs) (h' : InI w lo' hi' A' n' c' xs') (hg : w.grownBy w' (A'.map (·.block))) (hd : hi ≤ lo' ∨ hi' ≤ lo) : InI w' lo hi A n c xs :=
  ⟨h.ow.grown hg (h.sep h' hd), h.top⟩
theorem InI.ext_mark {w0 : World} (h : InI w lo hi A n c xs) (hE : Ext w0 w) (hg : w.grownBy w' (A.map (·.block))) (hl : w0.heap.size ≤ lo) : Ext w0 w' :=
  hE.grown hg fun k hk => by have := (h.ow.block k hk).1; omega
end
/-- k, k + 1, .. -/
def marks (k : Int) (n : Nat) : List Int := (List.range n).map fun (j : Nat) => k + j
theorem marks_len (k : Int) (n : Nat) : (marks k n).length = n := by simp [marks]
theorem marks_get (k : Int) {n j : Nat} (h : j < n) : (marks k n)[j]? = some (k + j) := by simp [marks, h]
theorem set_marks (k : Int) {xs : List Int} {n j : Nat} {x : Int} (hl : xs.length = n) (hj : xs[j]? = some x) :
    (((marks k n).take j) ++ xs.drop j).set j (k + j) = (marks k n).take (j + 1) ++ xs.drop (j + 1) := by
  have hjl : j < xs.length := (List.getElem?_eq_some_iff.1 hj).1
  have hlk : ((marks k n).take j).length = j := by simp [marks]; omega
  rw [List.set_append, if_neg (by omega), hlk, Nat.sub_self, take_snoc_of (marks_get k (by omega)), List.drop_eq_getElem_cons hjl, List.set_cons_zero]
  simp
-- frames
theorem i64_of_wf {n : Int} (h : (Lit.int .i64 n).wf = true) : I64 n := by
  simp only [Lit.wf, Bool.and_eq_true, decide_eq_true_eq] at h
  have h1 : IntKind.i64.min = -9223372036854775808 := by decide
  have h2 : IntKind.i64.max = 9223372036854775807 := by decide
  exact ⟨by omega, by omega⟩
theorem ints_of_open {w : World} {a : Addr} {len cap : Nat} {zs : List Int} (hl : len ≤ cap) (hm : cap ≤ maxLen) (hz : zs.length = cap)
    (hcell : ∀ i, i < zs.length → w.cell? (a.add i) = some (.int .i64 (zs.getD i 0))) (hwz : ∀ n ∈ zs, (Lit.int .i64 n).wf = true) : Ints w (some a) len cap (zs.take len) where
  rd := {
    len := by simp; omega
    le := hl
    max := by simp only [maxLen] at hm; omega
    at_ := fun h0 => by
      have h1 := hcell 0 (by omega)
      have hs : a.spot = none := by
        simp only [Addr.add_zero', World.cell?] at h1
        split at h1
        · split at h1
          · cases h1
          · rename_i hs; simpa using hs
        · cases h1
      obtain ⟨b, off, spot⟩ := a
      cases hs
      refine ⟨b, off, rfl, World.block_lt_of_cell? w _ (by simpa using h1), fun k v hv => ?_⟩
      have hk : k < len := by
        have := (List.getElem?_eq_some_iff.1 hv).1
        simp at this; omega
      have h2 := hcell k (by omega)
      rw [Addr.add_lit] at h2
      rw [h2, ← hv]
      have hk' : k < zs.length := by omega
      simp [hk, hk'] }
  wf := fun x hx => i64_of_wf (hwz x (List.mem_of_mem_take hx))
-- marked
theorem OwI.marked {w w' : World} {lo hi : Nat} {A : Option Addr} {n c : Nat} {xs ys : List Int} (h : OwI w' lo A n c ys) (h0 : InI w lo hi A n c xs) : InI w' lo hi A n c ys := ⟨h, h0.top⟩
-- results of two kinds
/-- A new slice of ints and a bool come back. -/
def RetIB (w : World) (xs : List Int) (b : Bool) (e : Ending) (w' : World) : Prop := ∃ A c, e = .returned (.tuple #[.slice A xs.length c, .bool b]) ∧ OwI w' w.heap.size A xs.length c xs ∧ Ext w w'
theorem RetIB.mk {w w' : World} {xs : List Int} {b b' : Bool} {e : Ending} {A : Option Addr} {n c : Nat} (he : e = .returned (.tuple #[.slice A n c, .bool b'])) (hb : b' = b) (ho : OwI w' w.heap.size A n c xs) (hE : Ext w w') : RetIB w xs b e w' := by
  have hl := ho.len
  subst hl
  subst hb
  exact ⟨A, c, he, ho, hE⟩

end Go.Proofs.YtbaljgdepicigaaDoor
