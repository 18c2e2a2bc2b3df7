/-
  Plain facts on a sovereign: who beats everybody else.
-/
import Derived.Test.YtbaljgdepicigaaDoorBase
import Derived.Test.YtbaljgdepicigaaDoorMgA
import Derived.Test.YtbaljgdepicigaaDoorLib
import Derived.Test.YtbaljgdepicigaaDoorAid
import Derived.Test.YtbaljgdepicigaaDoorStep
import Derived.Test.YtbaljgdepicigaaDoorGrid
import Derived.Test.YtbaljgdepicigaaDoorLibF
import Derived.Test.YtbaljgdepicigaaDoorPop
import Derived.Test.YtbaljgdepicigaaDoorMgB
import Derived.Test.YtbaljgdepicigaaDoorSeed
import Derived.Test.YtbaljgdepicigaaDoorTour
import Derived.Test.YtbaljgdepicigaaDoorTourB
import Derived.Test.YtbaljgdepicigaaDoorWin
import Derived.Test.YtbaljgdepicigaaDoorWinC
import Derived.Test.YtbaljgdepicigaaDoorWinE
import Derived.Test.YtbaljgdepicigaaDoorSovA
namespace Go.Proofs.YtbaljgdepicigaaDoor
open Go.RowKit
set_option linter.unusedVariables false

-- words
theorem sov_beats {m : Nat} {xs : List Int} (ht : tourOk (m : Int) xs) (h : 0 ≤ sovOf (m : Int) xs) : sovOf (m : Int) xs ∈ upto m ∧ ∀ b ∈ upto m, b ≠ sovOf (m : Int) xs → beatsI xs (sovOf (m : Int) xs) b ∧ ¬ beatsI xs b (sovOf (m : Int) xs) := by
  have hsz := tourOk_size ht
  have hl : xs.length = m := by omega
  unfold sovOf at *
  rw [if_pos ht, Int.toNat_natCast] at *
  obtain ⟨k, hk, hx, hp⟩ : ∃ k : Nat, idxF (sovP (m : Int) xs) (upto m) = (k : Int) ∧ k < m ∧ sovP (m : Int) xs (k : Int) = true := by
    obtain ⟨x, h1, h2, _⟩ := idxF_at (p := sovP (m : Int) xs) (xs := upto m) (by omega)
    have hlt := (List.getElem?_eq_some_iff.1 h1).1
    rw [upto_len] at hlt
    rw [upto_get hlt] at h1
    have := Option.some.inj h1
    refine ⟨(idxF (sovP (m : Int) xs) (upto m)).toNat, by omega, hlt, by rw [this]; exact h2⟩
  rw [hk]
  have hpc : (pc (rowN xs (k : Int)) : Int) = (m : Int) - 1 := by unfold sovP at hp; simpa using hp
  obtain ⟨r, hr, hlt⟩ := row_nat ht (a := k) (by omega)
  have hrn : rowN xs (k : Int) = r := by simp [rowN, List.getD, hr]
  rw [hrn] at hpc
  rw [hl] at hlt
  have hself : r.testBit k = false := by
    cases e : r.testBit k with
    | false => rfl
    | true => exact absurd ((bts_nat hr).2 e) (bts_self ht (by omega))
  refine ⟨upto_mem.2 (by omega), fun b hb hne => ?_⟩
  have hb := upto_mem.1 hb
  obtain ⟨j, rfl⟩ : ∃ j : Nat, b = (j : Int) := ⟨b.toNat, by omega⟩
  have hbt : bts xs k j := (bts_nat hr).2 (pc_others (by omega) hlt (by omega) hx hself (by omega) (by omega))
  unfold beatsI
  rw [Int.toNat_natCast, Int.toNat_natCast]
  exact ⟨hbt, (bts_anti ht (by omega) (by omega) (by omega)).1 hbt⟩

end Go.Proofs.YtbaljgdepicigaaDoor
