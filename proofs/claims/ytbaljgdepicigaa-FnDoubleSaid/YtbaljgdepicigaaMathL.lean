/-
  Plain lemmas on counts of defeats: no program.
-/
import Derived.Test.YtbaljgdepicigaaBase
import Derived.Test.YtbaljgdepicigaaMathA
import Derived.Test.YtbaljgdepicigaaMathD
import Derived.Test.YtbaljgdepicigaaMathB
import Derived.Test.YtbaljgdepicigaaMathU
import Derived.Test.YtbaljgdepicigaaMathG
import Derived.Test.YtbaljgdepicigaaMathX
namespace Go.Proofs.Ytbaljgdepicigaa
set_option linter.unusedVariables false

/-- How often each has lost in the first k games. -/
def lostTo (g : List (List Int)) (n k : Nat) : List Int := (List.range n).map fun (a : Nat) => (lossOf (g.take k) (a : Int) : Int)
theorem lostTo_len (g : List (List Int)) (n k : Nat) : (lostTo g n k).length = n := by simp [lostTo]
theorem lostTo_get (g : List (List Int)) {n a : Nat} (k : Nat) (h : a < n) : (lostTo g n k)[a]? = some (lossOf (g.take k) (a : Int) : Int) := by simp [lostTo, h]
theorem lostTo_zero (g : List (List Int)) (n : Nat) : lostTo g n 0 = List.replicate n 0 := by
  apply List.ext_getElem?
  intro i
  by_cases h : i < n
  · rw [lostTo_get g 0 h]; simp [lossOf, h]
  · rw [List.getElem?_eq_none (by rw [lostTo_len]; omega), List.getElem?_eq_none (by simp; omega)]
theorem take_snocL {α : Type} {l : List α} {k : Nat} {x : α} (h : l[k]? = some x) : l.take (k + 1) = l.take k ++ [x] := by
  rw [List.take_add_one, h]; rfl
theorem lostTo_step {g : List (List Int)} {n k v : Nat} {u : Int} (hg : g[k]? = some [u, (v : Int)]) (hv : v < n) : lostTo g n (k + 1) = (lostTo g n k).set v ((lossOf (g.take k) (v : Int) : Int) + 1) := by
  apply List.ext_getElem?
  intro i
  rw [List.getElem?_set]
  by_cases h : i < n
  · rw [lostTo_get g (k + 1) h, take_snocL hg, lossOf_snoc]
    by_cases e : v = i
    · subst e; rw [if_pos (by rfl), if_pos rfl, if_pos (by rw [lostTo_len]; exact hv)]; simp
    · rw [if_neg e, lostTo_get g k h, if_neg (by simp; omega)]; simp
  · rw [List.getElem?_eq_none (by rw [lostTo_len]; omega)]
    rw [if_neg (by omega), List.getElem?_eq_none (by rw [lostTo_len]; omega)]
theorem outTo_step {g : List (List Int)} {k v : Nat} {u : Int} (hg : g[k]? = some [u, (v : Int)]) :
    outTo g (k + 1) = if lossOf (g.take k) (v : Int) + 1 = 2 then (v : Int) :: outTo g k else outTo g k := by
  have h0 : g.getD k [] = [u, (v : Int)] := by simp [List.getD, hg]
  have h1 : (g.getD k []).getD 1 0 = (v : Int) := by rw [h0]; rfl
  simp only [outTo]
  rw [h1, take_snocL hg, lossOf_snoc]
  simp

end Go.Proofs.Ytbaljgdepicigaa
