/-
  Who can win a bracket has one: all facts of the law in one.
-/
import Derived.Test.YtbaljgdepicigaaDoorBase
import Derived.Test.YtbaljgdepicigaaDoorMgA
import Derived.Test.YtbaljgdepicigaaDoorLib
import Derived.Test.YtbaljgdepicigaaDoorAid
import Derived.Test.YtbaljgdepicigaaDoorStep
import Derived.Test.YtbaljgdepicigaaDoorGrid
import Derived.Test.YtbaljgdepicigaaDoorLibF
import Derived.Test.YtbaljgdepicigaaDoorMgB
import Derived.Test.YtbaljgdepicigaaDoorSeed
import Derived.Test.YtbaljgdepicigaaDoorTour
import Derived.Test.YtbaljgdepicigaaDoorTourB
import Derived.Test.YtbaljgdepicigaaDoorBrack
import Derived.Test.YtbaljgdepicigaaDoorBrackB
import Derived.Test.YtbaljgdepicigaaDoorDblB
import Derived.Test.YtbaljgdepicigaaDoorPop
import Derived.Test.YtbaljgdepicigaaDoorWin
import Derived.Test.YtbaljgdepicigaaDoorWinC
import Derived.Test.YtbaljgdepicigaaDoorWinD
import Derived.Test.YtbaljgdepicigaaDoorWinE
import Derived.Test.YtbaljgdepicigaaDoorSovA
import Derived.Test.YtbaljgdepicigaaDoorSovB
import Derived.Test.YtbaljgdepicigaaDoorRangeA
import Derived.Test.YtbaljgdepicigaaDoorFillD
import Derived.Test.YtbaljgdepicigaaDoorFillE
import Derived.Test.YtbaljgdepicigaaDoorFillF
import Derived.Test.YtbaljgdepicigaaDoorFillG
import Derived.Test.YtbaljgdepicigaaDoorRangeB
import Derived.Test.YtbaljgdepicigaaDoorExtA
import Derived.Test.YtbaljgdepicigaaDoorExtB
import Derived.Test.YtbaljgdepicigaaDoorExtC
import Derived.Test.YtbaljgdepicigaaDoorExtF
import Derived.Test.YtbaljgdepicigaaDoorLstA
import Derived.Test.YtbaljgdepicigaaDoorLstB
import Derived.Test.YtbaljgdepicigaaDoorExtG
namespace Go.Proofs.YtbaljgdepicigaaDoor
set_option linter.unusedVariables false

-- words
/-- What the law asks of one player. -/
structure FixOk (n : Nat) (xs : List Int) (a : Nat) (V : Nat) : Prop where
  bit : V.testBit a = decide (canWin (n : Int) xs (a : Int))
  okb : brkB (n : Int) xs (a : Int) = decide (canWin (n : Int) xs (a : Int))
  hal : halfFor (n : Int) xs (a : Int) (fullS (n : Int)) ↔ canWin (n : Int) xs (a : Int)
  len : canWin (n : Int) xs (a : Int) → (brkV (n : Int) xs (a : Int)).length = n
  brk : canWin (n : Int) xs (a : Int) → bracketOk (n : Int) xs (brkV (n : Int) xs (a : Int)) ∧ winnerOf (n : Int) xs (brkV (n : Int) xs (a : Int)) = (a : Int) ∧ sameBracket (brkV (n : Int) xs (a : Int)) (brkV (n : Int) xs (a : Int))
  str : strongKing (n : Int) xs (a : Int) → canWin (n : Int) xs (a : Int)
  sco : canWin (n : Int) xs (a : Int) → lg (n : Int) ≤ pc (rowN xs (a : Int))
  cnt : n ≤ 4 → countFor (n : Int) xs (a : Int) = (cntP xs (a : Int) (ordersL n) : Int) ∧ (0 < cntP xs (a : Int) (ordersL n) ↔ canWin (n : Int) xs (a : Int)) ∧ (1 < n → cntP xs (a : Int) (ordersL n) % n = 0)
theorem fix_ok {n : Nat} {xs : List Int} {a : Nat} (hf : fixedOk (n : Int) xs) (ha : a < n) : FixOk n xs a (win xs (lg (n : Int)) (fullS (n : Int))) := by
  have hsz := tourOk_size hf.1
  have hl : xs.length = n := by omega
  have har : 0 ≤ (a : Int) ∧ (a : Int) ≤ (n : Int) - 1 := by omega
  have hb : (win xs (lg (n : Int)) (fullS (n : Int))).testBit a = decide (canWin (n : Int) xs (a : Int)) := by
    rw [Bool.eq_iff_iff, decide_eq_true_eq]
    unfold canWin inSet possW
    rw [if_pos hf, Int.toNat_natCast, Int.toNat_natCast]
    exact ⟨fun h => ⟨hf, har, h⟩, fun h => h.2.2⟩
  have hmem : canWin (n : Int) xs (a : Int) → brkV (n : Int) xs (a : Int) ∈ ordersL n ∧ winner xs (brkV (n : Int) xs (a : Int)) = (a : Int) := fun h => by
    have e := brkO_yes h
    have hO : brkO (n : Int) xs (a : Int) = firstB xs (a : Int) := if_pos ⟨hf, har⟩
    rw [hO] at e
    have h1 := first_mem e
    rw [hl] at h1
    have hv : brkV (n : Int) xs (a : Int) = least xs (lg (n : Int)) (a : Int) (fullS (n : Int)) := by unfold brkV; rw [hO, e]; rfl
    rw [hv]
    have h2 := List.find?_some (p := fun p => decide (winner xs p = (a : Int))) e
    exact ⟨h1, by simpa using h2⟩
  exact {
    bit := hb
    okb := by
      unfold brkB
      by_cases h : canWin (n : Int) xs (a : Int)
      · rw [brkO_yes h, decide_eq_true h]; rfl
      · rw [brkO_no h, decide_eq_false h]; rfl
    hal := (canWin_half hf).symm
    len := fun h => (ordersL_mem (hmem h).1).1
    brk := fun h => by
      obtain ⟨h1, h2⟩ := hmem h
      have hbr := ordersL_brk hf hl h1
      have hbo : bracketOk (n : Int) xs (brkV (n : Int) xs (a : Int)) := ⟨hf.1, hbr.1, hbr.2.1, hbr.2.2.1, hbr.2.2.2⟩
      obtain ⟨m1, m2, m3⟩ := ordersL_mem h1
      have hfu : isFull (brkV (n : Int) xs (a : Int)) := ⟨hbr.1, fun x hx => by have := m2 x hx; omega, m3⟩
      exact ⟨hbo, by unfold winnerOf; rw [if_pos hbo]; exact h2, hfu, hfu, rfl, rfl⟩
    str := strong_wins
    sco := fun h => winner_score hf ha h
    cnt := fun h4 => by
      have hn8 : ¬ (n : Int) = 8 := by omega
      refine ⟨by unfold countFor; rw [if_pos ⟨hf, hn8, har⟩, hl], cnt_pos hf har, fun h1 => ?_⟩
      have hb := hf.2
      unfold brkSize at hb
      rcases (by omega : n = 2 ∨ n = 4) with e | e
      · subst e; exact cnt_mod2 hf.1 _
      · subst e; exact cnt_mod4 hf.1 _ }
/-- All players' brackets are all the orders. -/
theorem fix_sum {n : Nat} {xs : List Int} (hn : 1 ≤ n) : cntSum xs (ordersL n) n = (ordersL n).length := cntSum_all _ (orders_won hn)
/-- A sovereign is the only one who can win. -/
theorem fix_sov {n : Nat} {xs : List Int} (hf : fixedOk (n : Int) xs) (h : 0 ≤ sovOf (n : Int) xs) : possW (n : Int) xs = ((2 ^ (sovOf (n : Int) xs).toNat : Nat) : Int) := by
  obtain ⟨h1, h2⟩ := sov_beats hf.1 h
  have h1 := upto_mem.1 h1
  refine sov_only hf (by omega) (fun b hb hne => ?_)
  have := (h2 (b : Int) (upto_mem.2 (by omega)) (by omega)).1
  unfold beatsI at this
  rwa [Int.toNat_natCast] at this

end Go.Proofs.YtbaljgdepicigaaDoor
