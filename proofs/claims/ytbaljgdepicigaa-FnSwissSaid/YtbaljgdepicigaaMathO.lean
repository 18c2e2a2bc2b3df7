/-
  Plain lemmas on stable orders by insertion: no program.
-/
import Derived.Test.YtbaljgdepicigaaBase
import Derived.Test.YtbaljgdepicigaaMathA
import Derived.Test.YtbaljgdepicigaaMathD
import Derived.Test.YtbaljgdepicigaaMathB
import Derived.Test.YtbaljgdepicigaaMathU
import Derived.Test.YtbaljgdepicigaaMathG
import Derived.Test.YtbaljgdepicigaaMathX
namespace Go.Proofs.Ytbaljgdepicigaa
set_option linter.unusedVariables false

def vO (xs : List Int) (a : Int) : Int := xs.getD a.toNat 0
/-- Where a value goes, from place k down. -/
def posO (xs out : List Int) (x : Int) : Nat → Nat
  | 0 => 0
  | k + 1 => if vO xs (out.getD k 0) < x then posO xs out x k else k + 1
theorem posO_le (xs out : List Int) (x : Int) (k : Nat) : posO xs out x k ≤ k := by
  induction k with
  | zero => simp [posO]
  | succ k ih => simp only [posO]; split <;> omega
def insO (out : List Int) (i : Int) (p : Nat) : List Int := out.take p ++ [i] ++ out.drop p
theorem insO_len (out : List Int) (i : Int) {p : Nat} (h : p ≤ out.length) : (insO out i p).length = out.length + 1 := by simp [insO]; omega
def orderO (xs : List Int) : Nat → List Int
  | 0 => []
  | i + 1 => insO (orderO xs i) (i : Int) (posO xs (orderO xs i) (vO xs (i : Int)) i)
theorem orderO_len (xs : List Int) (i : Nat) : (orderO xs i).length = i := by
  induction i with
  | zero => rfl
  | succ i ih => simp only [orderO]; rw [insO_len _ _ (by rw [ih]; exact posO_le _ _ _ _), ih]
theorem orderO_mem (xs : List Int) (i : Nat) : ∀ a ∈ orderO xs i, 0 ≤ a ∧ a < i := by
  induction i with
  | zero => intro a h; cases h
  | succ i ih =>
    intro a h
    simp only [orderO, insO] at h
    rcases List.mem_append.1 h with h | h
    · rcases List.mem_append.1 h with h | h
      · have := ih a (List.mem_of_mem_take h); omega
      · simp at h; omega
    · have := ih a (List.mem_of_mem_drop h); omega
theorem insO_at (out : List Int) (i : Int) {p : Nat} (h : p ≤ out.length) : (insO out i p)[p]? = some i := by
  unfold insO
  have hl : (out.take p).length = p := by simp; omega
  rw [List.append_assoc, List.getElem?_append_right (by omega), hl, Nat.sub_self]
  rfl
theorem insO_before (out : List Int) (i : Int) {p : Nat} (h : p + 1 ≤ out.length) : (insO out i (p + 1))[p]? = out[p]? := by
  unfold insO
  rw [List.append_assoc, List.getElem?_append_left (by simp; omega), List.getElem?_take, if_pos (by omega)]
theorem insO_after (out : List Int) (i : Int) {p q : Nat} (h : p ≤ out.length) (hq : p < q) : (insO out i p)[q]? = out[q - 1]? := by
  unfold insO
  have hl : (out.take p ++ [i]).length = p + 1 := by simp; omega
  rw [List.getElem?_append_right (by omega), hl, List.getElem?_drop]
  congr 1
  omega
theorem insO_swap {out rest : List Int} {i y : Int} {p : Nat} (h : out[p]? = some y) : (((insO out i (p + 1)) ++ rest).set (p + 1) y).set p i = insO out i p ++ rest := by
  have hp : p < out.length := (List.getElem?_eq_some_iff.1 h).1
  apply List.ext_getElem?
  intro q
  have hl : (insO out i (p + 1)).length = out.length + 1 := insO_len _ _ (by omega)
  have hl2 : (insO out i p).length = out.length + 1 := insO_len _ _ (by omega)
  rw [List.getElem?_set]
  by_cases e1 : p = q
  · subst e1
    rw [if_pos rfl, if_pos (by simp; omega), List.getElem?_append_left (by omega), insO_at _ _ (by omega)]
  · rw [if_neg e1, List.getElem?_set]
    by_cases e2 : p + 1 = q
    · subst e2
      rw [if_pos rfl, if_pos (by simp; omega), List.getElem?_append_left (by omega)]
      unfold insO
      rw [List.append_assoc, List.getElem?_append_right (by simp; omega)]
      have h9 : (out.take p).length = p := by simp; omega
      rw [h9, show p + 1 - p = 1 by omega]
      simp [h]
    · rw [if_neg e2]
      by_cases hq : q < out.length + 1
      · rw [List.getElem?_append_left (by omega), List.getElem?_append_left (by omega)]
        by_cases hqp : q < p
        · unfold insO
          rw [List.append_assoc, List.append_assoc, List.getElem?_append_left (by simp; omega), List.getElem?_append_left (by simp; omega), List.getElem?_take, List.getElem?_take, if_pos (by omega), if_pos (by omega)]
        · rw [insO_after _ _ (by omega) (by omega), insO_after _ _ (by omega) (by omega)]
      · rw [List.getElem?_append_right (by omega), List.getElem?_append_right (by omega), hl, hl2]
theorem insO_end (out : List Int) (i : Int) {k : Nat} (h : out.length = k) : insO out i k = out ++ [i] := by
  unfold insO; rw [take_len h, List.drop_of_length_le (by omega), List.append_nil]
/-- The data while element i is put in: at place j. -/
def midO (xs : List Int) (n i j : Nat) : List Int := insO (orderO xs i) (i : Int) j ++ (upto n).drop (i + 1)
theorem upto_drop {n i : Nat} (h : i < n) : (upto n).drop i = (i : Int) :: (upto n).drop (i + 1) := by
  rw [List.drop_eq_getElem_cons (by rw [upto_len]; exact h)]
  congr 1
  have := upto_get h
  rw [List.getElem?_eq_getElem (by rw [upto_len]; exact h)] at this
  simpa using this
theorem midO_start (xs : List Int) {n i : Nat} (h : i < n) : orderO xs i ++ (upto n).drop i = midO xs n i i := by
  unfold midO; rw [insO_end _ _ (orderO_len xs i), upto_drop h]; simp
theorem midO_end (xs : List Int) (n i : Nat) : midO xs n i (posO xs (orderO xs i) (vO xs (i : Int)) i) = orderO xs (i + 1) ++ (upto n).drop (i + 1) := rfl
theorem midO_at (xs : List Int) {n i j : Nat} (h : j ≤ i) : (midO xs n i j)[j]? = some (i : Int) := by
  unfold midO
  rw [List.getElem?_append_left (by rw [insO_len _ _ (by rw [orderO_len]; exact h), orderO_len]; omega), insO_at _ _ (by rw [orderO_len]; exact h)]
theorem midO_before (xs : List Int) {n i j : Nat} (h : j + 1 ≤ i) : (midO xs n i (j + 1))[j]? = (orderO xs i)[j]? := by
  unfold midO
  rw [List.getElem?_append_left (by rw [insO_len _ _ (by rw [orderO_len]; exact h), orderO_len]; omega), insO_before _ _ (by rw [orderO_len]; exact h)]
theorem midO_swap (xs : List Int) {n i j : Nat} {y : Int} (h : (orderO xs i)[j]? = some y) : ((midO xs n i (j + 1)).set (j + 1) y).set j (i : Int) = midO xs n i j := insO_swap h
theorem midO_len (xs : List Int) {n i j : Nat} (hi : i < n) (h : j ≤ i) : (midO xs n i j).length = n := by
  unfold midO; rw [List.length_append, insO_len _ _ (by rw [orderO_len]; exact h), orderO_len, List.length_drop, upto_len]; omega

end Go.Proofs.Ytbaljgdepicigaa
