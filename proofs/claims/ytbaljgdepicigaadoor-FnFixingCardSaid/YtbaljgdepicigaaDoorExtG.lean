/-
  Plain lemmas on how many brackets a player wins: no program.
-/
import Derived.Test.YtbaljgdepicigaaDoorBase
import Derived.Test.YtbaljgdepicigaaDoorMgA
import Derived.Test.YtbaljgdepicigaaDoorLib
import Derived.Test.YtbaljgdepicigaaDoorAid
import Derived.Test.YtbaljgdepicigaaDoorStep
import Derived.Test.YtbaljgdepicigaaDoorGrid
import Derived.Test.YtbaljgdepicigaaDoorLibF
import Derived.Test.YtbaljgdepicigaaDoorMgB
import Derived.Test.YtbaljgdepicigaaDoorSeed
import Derived.Test.YtbaljgdepicigaaDoorTour
import Derived.Test.YtbaljgdepicigaaDoorTourB
import Derived.Test.YtbaljgdepicigaaDoorBrack
import Derived.Test.YtbaljgdepicigaaDoorBrackB
import Derived.Test.YtbaljgdepicigaaDoorDblB
import Derived.Test.YtbaljgdepicigaaDoorPop
import Derived.Test.YtbaljgdepicigaaDoorWin
import Derived.Test.YtbaljgdepicigaaDoorWinC
import Derived.Test.YtbaljgdepicigaaDoorWinD
import Derived.Test.YtbaljgdepicigaaDoorRangeA
import Derived.Test.YtbaljgdepicigaaDoorFillD
import Derived.Test.YtbaljgdepicigaaDoorFillE
import Derived.Test.YtbaljgdepicigaaDoorFillF
import Derived.Test.YtbaljgdepicigaaDoorFillG
import Derived.Test.YtbaljgdepicigaaDoorRangeB
import Derived.Test.YtbaljgdepicigaaDoorExtA
import Derived.Test.YtbaljgdepicigaaDoorExtB
import Derived.Test.YtbaljgdepicigaaDoorExtC
import Derived.Test.YtbaljgdepicigaaDoorExtF
import Derived.Test.YtbaljgdepicigaaDoorLstA
import Derived.Test.YtbaljgdepicigaaDoorLstB
namespace Go.Proofs.YtbaljgdepicigaaDoor
set_option linter.unusedVariables false

-- words
theorem game_sym {n : Nat} {xs : List Int} (ht : tourOk (n : Int) xs) {a b : Nat} (ha : a < n) (hb : b < n) (hne : a ≠ b) : game xs (a : Int) (b : Int) = game xs (b : Int) (a : Int) := by
  have hsz := tourOk_size ht
  by_cases h : bts xs a b
  · have := bt_of ht ha hb h; rw [this.1, this.2]
  · have h2 := (bts_anti ht (a := b) (b := a) (by omega) (by omega) (fun e => hne e.symm)).2 h
    have := bt_of ht hb ha h2; rw [this.1, this.2]
theorem orders4 : ordersL 4 = [[0, 1, 2, 3], [0, 1, 3, 2], [0, 2, 1, 3], [0, 2, 3, 1], [0, 3, 1, 2], [0, 3, 2, 1], [1, 0, 2, 3], [1, 0, 3, 2], [1, 2, 0, 3], [1, 2, 3, 0], [1, 3, 0, 2], [1, 3, 2, 0], [2, 0, 1, 3], [2, 0, 3, 1], [2, 1, 0, 3], [2, 1, 3, 0], [2, 3, 0, 1], [2, 3, 1, 0], [3, 0, 1, 2], [3, 0, 2, 1], [3, 1, 0, 2], [3, 1, 2, 0], [3, 2, 0, 1], [3, 2, 1, 0]] := by decide +kernel
theorem orders2 : ordersL 2 = [[0, 1], [1, 0]] := by decide +kernel
theorem cnt_mod2 {xs : List Int} (ht : tourOk ((2 : Nat) : Int) xs) (a : Int) : cntP xs a (ordersL 2) % 2 = 0 := by
  have s := game_sym ht (a := 1) (b := 0) (by omega) (by omega) (by omega)
  have s : game xs 1 0 = game xs 0 1 := s
  rw [orders2]
  simp only [cntP, List.countP_cons, List.countP_nil, winner2, s]
  by_cases h : game xs 0 1 = a <;> simp [h]
theorem cnt_mod4 {xs : List Int} (ht : tourOk ((4 : Nat) : Int) xs) (a : Int) : cntP xs a (ordersL 4) % 4 = 0 := by
  have s10 : game xs 1 0 = game xs 0 1 := game_sym ht (a := 1) (b := 0) (by omega) (by omega) (by omega)
  have s20 : game xs 2 0 = game xs 0 2 := game_sym ht (a := 2) (b := 0) (by omega) (by omega) (by omega)
  have s30 : game xs 3 0 = game xs 0 3 := game_sym ht (a := 3) (b := 0) (by omega) (by omega) (by omega)
  have s21 : game xs 2 1 = game xs 1 2 := game_sym ht (a := 2) (b := 1) (by omega) (by omega) (by omega)
  have s31 : game xs 3 1 = game xs 1 3 := game_sym ht (a := 3) (b := 1) (by omega) (by omega) (by omega)
  have s32 : game xs 3 2 = game xs 2 3 := game_sym ht (a := 3) (b := 2) (by omega) (by omega) (by omega)
  have t1 : game xs (game xs 2 3) (game xs 0 1) = game xs (game xs 0 1) (game xs 2 3) := by
    rcases game_or xs 2 3 with e | e <;> rcases game_or xs 0 1 with f | f <;> rw [e, f] <;> first | exact s20 | exact s21 | exact s30 | exact s31
  have t2 : game xs (game xs 1 3) (game xs 0 2) = game xs (game xs 0 2) (game xs 1 3) := by
    rcases game_or xs 1 3 with e | e <;> rcases game_or xs 0 2 with f | f <;> rw [e, f] <;> first | exact s10 | exact s21.symm | exact s30 | exact s32
  have t3 : game xs (game xs 1 2) (game xs 0 3) = game xs (game xs 0 3) (game xs 1 2) := by
    rcases game_or xs 1 2 with e | e <;> rcases game_or xs 0 3 with f | f <;> rw [e, f] <;> first | exact s10 | exact s31.symm | exact s20 | exact s32.symm
  rw [orders4]
  simp only [cntP, List.countP_cons, List.countP_nil, winner4, s10, s20, s30, s21, s31, s32, t1, t2, t3]
  generalize game xs (game xs 0 1) (game xs 2 3) = w1
  generalize game xs (game xs 0 2) (game xs 1 3) = w2
  generalize game xs (game xs 0 3) (game xs 1 2) = w3
  by_cases h1 : w1 = a <;> by_cases h2 : w2 = a <;> by_cases h3 : w3 = a <;> simp [h1, h2, h3]
/-- All brackets have a winner. -/
def cntSum (xs : List Int) (l : List (List Int)) : Nat → Nat
  | 0 => 0
  | k + 1 => cntSum xs l k + cntP xs (k : Int) l
theorem cntSum_cons (xs : List Int) (p : List Int) (l : List (List Int)) : ∀ k : Nat, cntSum xs (p :: l) k = cntSum xs l k + if 0 ≤ winner xs p ∧ winner xs p < (k : Int) then 1 else 0 := by
  intro k
  induction k with
  | zero => simp [cntSum]
  | succ k ih =>
    simp only [cntSum, ih]
    have e : cntP xs (k : Int) (p :: l) = cntP xs (k : Int) l + if winner xs p = (k : Int) then 1 else 0 := by simp [cntP, List.countP_cons]
    rw [e]
    by_cases h : winner xs p = (k : Int)
    · rw [if_pos h, if_neg (by omega), if_pos (by omega)]; omega
    · rw [if_neg h]
      by_cases h2 : 0 ≤ winner xs p ∧ winner xs p < (k : Int)
      · rw [if_pos h2, if_pos (by omega)]; omega
      · rw [if_neg h2, if_neg (by omega)]; omega
theorem cntSum_all {xs : List Int} {n : Nat} : ∀ l : List (List Int), (∀ p ∈ l, 0 ≤ winner xs p ∧ winner xs p < (n : Int)) → cntSum xs l n = l.length := by
  intro l
  induction l with
  | nil =>
    intro _
    have : ∀ k, cntSum xs [] k = 0 := by intro k; induction k with
      | zero => rfl
      | succ k ih => simp only [cntSum, ih]; rfl
    exact this n
  | cons p l ih =>
    intro h
    rw [cntSum_cons, ih (fun q hq => h q (by simp [hq])), if_pos (h p (by simp)), List.length_cons]
theorem cntSum_le (xs : List Int) (l : List (List Int)) (k : Nat) : cntSum xs l k ≤ k * l.length := by
  induction k with
  | zero => simp [cntSum]
  | succ k ih =>
    have : cntP xs (k : Int) l ≤ l.length := List.countP_le_length
    simp only [cntSum, Nat.succ_mul]; omega
theorem orders_won {n : Nat} {xs : List Int} (hn : 1 ≤ n) : ∀ p ∈ ordersL n, 0 ≤ winner xs p ∧ winner xs p < (n : Int) := fun p hp => by
  obtain ⟨h1, h2, _⟩ := ordersL_mem hp
  have := h2 _ (winner_mem xs (p := p) (by omega))
  omega
theorem orders_len : ∀ n : Nat, n < 5 → (ordersL n).length = if n = 0 then 1 else if n = 1 then 1 else if n = 2 then 2 else if n = 3 then 6 else 24 := by decide +kernel
/-- A player wins some bracket if he can win. -/
theorem cnt_pos {n : Nat} {xs : List Int} {a : Int} (hf : fixedOk (n : Int) xs) (ha : 0 ≤ a ∧ a ≤ (n : Int) - 1) : 0 < cntP xs a (ordersL n) ↔ canWin (n : Int) xs a := by
  have hsz := tourOk_size hf.1
  have hl : xs.length = n := by omega
  have hfl := first_least hf ha
  unfold cntP
  rw [List.countP_pos_iff]
  constructor
  · rintro ⟨p, hp, hw⟩
    refine ⟨hf, ha, ?_⟩
    apply Classical.byContradiction
    intro hn
    rw [if_neg hn] at hfl
    have := List.find?_eq_none.1 hfl p (by rw [hl]; exact hp)
    exact this hw
  · intro h
    rw [if_pos h.2.2] at hfl
    have h1 := List.mem_of_find?_eq_some hfl
    rw [hl] at h1
    exact ⟨_, h1, List.find?_some (p := fun p => decide (winner xs p = a)) hfl⟩

end Go.Proofs.YtbaljgdepicigaaDoor
