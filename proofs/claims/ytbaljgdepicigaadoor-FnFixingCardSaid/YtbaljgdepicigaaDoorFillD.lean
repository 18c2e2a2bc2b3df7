/-
  Contracts of the functions that count pairings, and find the least sum of differences.
-/
import Derived.Test.YtbaljgdepicigaaDoorBase
import Derived.Test.YtbaljgdepicigaaDoorMgA
import Derived.Test.YtbaljgdepicigaaDoorLib
import Derived.Test.YtbaljgdepicigaaDoorAid
import Derived.Test.YtbaljgdepicigaaDoorStep
import Derived.Test.YtbaljgdepicigaaDoorGrid
import Derived.Test.YtbaljgdepicigaaDoorLibF
import Derived.Test.YtbaljgdepicigaaDoorMgB
import Derived.Test.YtbaljgdepicigaaDoorDblB
import Derived.Test.YtbaljgdepicigaaDoorRangeA
namespace Go.Proofs.YtbaljgdepicigaaDoor
open Go.RowKit
set_option linter.unusedVariables false
set_option maxRecDepth 100000
attribute [local go_sem] Oper.semAt_some

-- words
theorem fillL_len (order ms : List Int) (ho : order.length ≤ 8) : ∀ (k : Nat) (ps : List Int), (fillL order ms k ps).length ≤ 8 ^ k := by
  have key : ∀ (l : List Int) (f : Int → List (List Int)) (m : Nat), (∀ x ∈ l, (f x).length ≤ m) → (l.flatMap f).length ≤ l.length * m := by
    intro l f m
    induction l with
    | nil => simp
    | cons x l ih =>
      intro h
      have h1 := h x (by simp)
      have h2 := ih fun y hy => h y (by simp [hy])
      rw [List.flatMap_cons, List.length_append, List.length_cons, Nat.succ_mul]
      omega
  intro k
  induction k with
  | zero => intro ps; simp [fillL]
  | succ k ih =>
    intro ps
    simp only [fillL]
    have hp : 1 ≤ 8 ^ k := Nat.one_le_pow _ _ (by omega)
    split
    · rw [Nat.pow_succ]; simp; omega
    · refine Nat.le_trans (key _ _ (8 ^ k) fun x _ => ?_) ?_
      · unfold fillStep
        split
        · simp
        · exact ih _
      · rw [Nat.pow_succ, Nat.mul_comm]
        exact Nat.mul_le_mul_left _ (by rw [List.length_drop]; omega)
theorem ordOf_upto (n : Nat) : ordOf n (upto n) := by
  refine ⟨?_, upto_len n, fun x hx => ?_, fun i hi => ?_⟩
  · unfold upto
    rw [List.nodup_iff_pairwise_ne, List.pairwise_map]
    exact (List.nodup_iff_pairwise_ne.1 List.nodup_range).imp fun h e => h (by omega)
  · simp [upto] at hx
    obtain ⟨i, hi, rfl⟩ := hx
    omega
  · simp [upto]; exact ⟨i, hi, rfl⟩
def startP (n : Nat) : List Int := List.replicate n (-1)
def pairingsO (order ms : List Int) : List (List Int) := fillL order ms (ms.length + 1) (startP ms.length)
def countP (xs ms : List Int) : Int := if swissOk xs ms then ((pairingsO (upto ms.length) ms).length : Int) else -1
theorem swissOk_n {xs ms : List Int} (h : swissOk xs ms) : (ms.length = 2 ∨ ms.length = 4 ∨ ms.length = 6 ∨ ms.length = 8) ∧ ∀ m ∈ ms, 0 ≤ m ∧ m ≤ 255 := by
  have h1 := h.1
  have h2 := h.2.1
  have hn : ms.length = 2 ∨ ms.length = 4 ∨ ms.length = 6 ∨ ms.length = 8 := by have := h1.1; have := h1.2.1; omega
  refine ⟨hn, fun m hm => ?_⟩
  have h3 := h.2.2.1 m hm
  have h4 := pow_small (n := ms.length) (by omega)
  omega

end Go.Proofs.YtbaljgdepicigaaDoor
