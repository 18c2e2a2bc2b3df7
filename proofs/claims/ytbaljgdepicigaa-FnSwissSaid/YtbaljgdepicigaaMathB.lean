/-
  Plain lemmas on seeds and rounds: no program.
-/
import Derived.Test.YtbaljgdepicigaaBase
import Derived.Test.YtbaljgdepicigaaMathA
namespace Go.Proofs.Ytbaljgdepicigaa
set_option linter.unusedVariables false

/-- A number of entries of a bracket. -/
def brkSize (n : Int) : Prop := n = 1 ∨ n = 2 ∨ n = 4 ∨ n = 8
instance (n : Int) : Decidable (brkSize n) := by unfold brkSize; infer_instance

/-- In which round the places i and k of a bracket of at most 8 meet. -/
def meetR (i k : Nat) : Nat := if i = k then 0 else if i / 2 = k / 2 then 1 else if i / 4 = k / 4 then 2 else 3
theorem meetR_same (i : Nat) : meetR i i = 0 := by simp [meetR]
theorem meetR_step {i k : Nat} (h : i ≠ k) (hi : i ≤ 7) (hk : k ≤ 7) : meetR i k = meetR (i / 2) (k / 2) + 1 := by
  unfold meetR
  rw [if_neg h]
  by_cases h1 : i / 2 = k / 2
  · simp [h1]
  · rw [if_neg h1, if_neg h1]
    by_cases h2 : i / 4 = k / 4
    · rw [if_pos h2, if_pos (by omega)]
    · rw [if_neg h2, if_neg (by omega), if_pos (by omega)]
theorem meetR_le (i k : Nat) : meetR i k ≤ 3 := by unfold meetR; split <;> (try split) <;> (try split) <;> omega
/-- The number of binary digits of a number below 8. -/
def lenR (x : Nat) : Nat := if x = 0 then 0 else if x < 2 then 1 else if x < 4 then 2 else 3
theorem lenR_xor : ∀ i : Nat, i < 8 → ∀ k : Nat, k < 8 → lenR (i ^^^ k) = meetR i k ∧ i ^^^ k < 8 := by decide
def roundOfMeeting (n i k : Int) : Int := if brkSize n ∧ (0 ≤ i ∧ i ≤ n - 1) ∧ (0 ≤ k ∧ k ≤ n - 1) then meetR i.toNat k.toNat else 0

/-- Each s is followed by m + 1 - s. -/
def seedStep (m : Int) (xs : List Int) : List Int := xs.flatMap fun s => [s, m + 1 - s]
theorem seedStep_len (m : Int) (xs : List Int) : (seedStep m xs).length = 2 * xs.length := by
  induction xs with
  | nil => rfl
  | cons x r ih => simp only [seedStep, List.flatMap_cons, List.length_append, List.length_cons, List.length_nil] at ih ⊢; omega
theorem seedStep_snoc (m : Int) {xs : List Int} {j : Nat} {x : Int} (h : xs[j]? = some x) : seedStep m (xs.take (j + 1)) = seedStep m (xs.take j) ++ [x, m + 1 - x] := by
  rw [take_snoc_of h]; simp [seedStep]
def pw2 : Nat → Nat
  | 0 => 1
  | k + 1 => 2 * pw2 k
def seedTo : Nat → List Int
  | 0 => [1]
  | k + 1 => seedStep (pw2 (k + 1)) (seedTo k)
theorem seedTo_len (k : Nat) : (seedTo k).length = pw2 k := by
  induction k with
  | zero => rfl
  | succ k ih => rw [seedTo, seedStep_len, ih, pw2]
theorem pw2_small {k : Nat} (h : k ≤ 4) : 1 ≤ pw2 k ∧ pw2 k ≤ 16 := by
  match k, h with
  | 0, _ => simp [pw2]
  | 1, _ => simp [pw2]
  | 2, _ => simp [pw2]
  | 3, _ => simp [pw2]
  | 4, _ => simp [pw2]
theorem pw2_mono {j k : Nat} (h : j ≤ k) : pw2 j ≤ pw2 k := by
  induction k with
  | zero => obtain rfl : j = 0 := by omega
            exact Nat.le_refl _
  | succ k ih =>
    by_cases e : j = k + 1
    · rw [e]; exact Nat.le_refl _
    · have := ih (by omega); rw [pw2]; omega
theorem pw2_lt {j k : Nat} (h : j < k) : 2 * pw2 j ≤ pw2 k := pw2_mono (j := j + 1) h
theorem pw2_pos (k : Nat) : 1 ≤ pw2 k := by have := pw2_mono (Nat.zero_le k); simpa [pw2] using this
def lg (n : Int) : Nat := if n = 1 then 0 else if n = 2 then 1 else if n = 4 then 2 else 3
theorem brk_pw2 {n : Int} (h : brkSize n) : n = pw2 (lg n) ∧ lg n ≤ 3 := by
  rcases h with rfl | rfl | rfl | rfl <;> simp [lg, pw2]
theorem seed_wf : ∀ k : Nat, k < 4 → ∀ x ∈ seedTo k, 1 ≤ x ∧ x ≤ (pw2 k : Int) := by decide
def seedOrder (n : Int) : List Int := if brkSize n then seedTo (lg n) else []
theorem seedOrder_len (n : Int) : (seedOrder n).length ≤ 8 := by
  unfold seedOrder
  split
  · rename_i h
    have := brk_pw2 h
    have h2 := pw2_mono this.2
    rw [seedTo_len]; simpa [pw2] using h2
  · simp
theorem seedOrder_wf {n : Int} (h : brkSize n) : ∀ x ∈ seedOrder n, 1 ≤ x ∧ x ≤ n := by
  have hp := brk_pw2 h
  have := seed_wf (lg n) (by omega)
  rw [← hp.1] at this
  unfold seedOrder; rw [if_pos h]; exact this
def ordOk (xs : List Int) (m : Int) : Prop := brkSize m ∧ (1 ≤ (xs.length : Int) ∧ (xs.length : Int) ≤ m) ∧ (∀ x ∈ xs, 0 ≤ x) ∧ xs.Nodup
instance (xs : List Int) (m : Int) : Decidable (ordOk xs m) := by unfold ordOk; infer_instance
def seedAt (xs : List Int) (s : Int) : Int := if s ≤ xs.length then xs.getD (s - 1).toNat 0 else -1
def seedBracket (xs : List Int) (m : Int) : List Int := if ordOk xs m then (seedOrder m).map (seedAt xs) else []
theorem seedBracket_len (xs : List Int) (m : Int) : (seedBracket xs m).length ≤ 8 := by
  unfold seedBracket; split
  · rw [List.length_map]; exact seedOrder_len m
  · simp
theorem map_take_snoc {α β : Type} (f : α → β) {l : List α} {j : Nat} {x : α} (h : l[j]? = some x) : (l.take (j + 1)).map f = (l.take j).map f ++ [f x] := by
  rw [take_snoc_of h, List.map_append]; rfl
theorem seedAt_in {xs : List Int} {s : Nat} {x : Int} (h : xs[s]? = some x) : seedAt xs (s + 1) = x := by
  have := (List.getElem?_eq_some_iff.1 h).1
  unfold seedAt; rw [if_pos (by omega), show ((s : Int) + 1 - 1).toNat = s by omega]; simp [List.getD, h]

end Go.Proofs.Ytbaljgdepicigaa
