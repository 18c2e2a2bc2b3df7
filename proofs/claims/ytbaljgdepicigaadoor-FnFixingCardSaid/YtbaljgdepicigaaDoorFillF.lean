/-
  The reference's count of pairings and its least sum of differences.
-/
import Derived.Deep.RegionLaw
import Derived.Laws.ShiftsVar
import Derived.Test.YtbaljgdepicigaaDoorBase
import Derived.Test.YtbaljgdepicigaaDoorMgA
import Derived.Test.YtbaljgdepicigaaDoorLib
import Derived.Test.YtbaljgdepicigaaDoorAid
import Derived.Test.YtbaljgdepicigaaDoorStep
import Derived.Test.YtbaljgdepicigaaDoorGrid
import Derived.Test.YtbaljgdepicigaaDoorLibF
import Derived.Test.YtbaljgdepicigaaDoorMgB
import Derived.Test.YtbaljgdepicigaaDoorDblB
import Derived.Test.YtbaljgdepicigaaDoorSortA
import Derived.Test.YtbaljgdepicigaaDoorFillD
import Derived.Test.YtbaljgdepicigaaDoorFillE
namespace Go.Proofs.YtbaljgdepicigaaDoor
open Go.RowKit
set_option linter.unusedVariables false
set_option maxRecDepth 100000

-- words
theorem ordOf_orderO (xs : List Int) (n : Nat) : ordOf n (orderO xs n) := by
  induction n with
  | zero => exact ⟨by simp [orderO], by simp [orderO], by simp [orderO], fun i hi => absurd hi (Nat.not_lt_zero _)⟩
  | succ n ih =>
    obtain ⟨h1, h2, h3, h4⟩ := ih
    simp only [orderO, insO]
    generalize posO xs (orderO xs n) _ n = p
    have hp : (List.take p (orderO xs n) ++ [(n : Int)] ++ List.drop p (orderO xs n)).Perm ((n : Int) :: orderO xs n) := by
      have := (List.perm_middle (a := (n : Int)) (l₁ := List.take p (orderO xs n)) (l₂ := List.drop p (orderO xs n)))
      rw [List.take_append_drop] at this
      simpa using this
    refine ⟨hp.nodup_iff.2 (List.nodup_cons.2 ⟨fun hm => by have := h3 _ hm; omega, h1⟩), by rw [hp.length_eq]; simp [h2], fun x hx => ?_, fun i hi => hp.mem_iff.2 ?_⟩
    · rcases List.mem_cons.1 (hp.mem_iff.1 hx) with rfl | hx
      · omega
      · have := h3 x hx; omega
    · by_cases e : i = n
      · subst e; simp
      · exact List.mem_cons_of_mem _ (h4 i (by omega))
theorem swissOk_sym {xs ms : List Int} (h : swissOk xs ms) : ∀ a b : Nat, a < ms.length → b < ms.length → bitAt (ms.getD a 0) b = bitAt (ms.getD b 0) a := by
  intro a b ha hb
  rcases Nat.lt_trichotomy a b with hab | hab | hab
  · exact ((h.2.2.2 b hb).2 a hab).symm
  · rw [hab]
  · exact (h.2.2.2 a ha).2 b hab
/-- The reference's list is one of the program's. -/
theorem allL_pairings {xs ms : List Int} (h : swissOk xs ms) : allL ms (ms.length + 1) (orderO xs ms.length) (List.replicate ms.length 0) = pairingsO (orderO xs ms.length) ms := by
  have ho := ordOf_orderO xs ms.length
  have := allL_eq (ms := ms) ho (ms.length + 1) (List.replicate ms.length (-1)) (List.replicate ms.length 0) (partP_start _) (nfree_start _) (by simp) (fun i hi hf => absurd (show (List.replicate ms.length (-1 : Int)).getD i 0 < 0 by simp [List.getD, hi]) hf)
  unfold pairingsO startP
  rw [← this]
  congr 1
  symm
  rw [List.filter_eq_self]
  intro x hx
  have := ho.2.2.1 x hx
  have hx2 : x.toNat < ms.length := by omega
  simp [frP, List.getD, hx2]
theorem pairings_perm {xs ms : List Int} (h : swissOk xs ms) : (pairingsO (upto ms.length) ms).Perm (pairingsO (orderO xs ms.length) ms) :=
  fill_perm (ordOf_upto _) (ordOf_orderO _ _) (swissOk_sym h) (partP_start _) (nfree_start _)
theorem countP_all {xs ms : List Int} (h : swissOk xs ms) : countP xs ms = ((allL ms (ms.length + 1) (orderO xs ms.length) (List.replicate ms.length 0)).length : Int) := by
  unfold countP
  rw [if_pos h, allL_pairings h, (pairings_perm h).length_eq]

end Go.Proofs.YtbaljgdepicigaaDoor
