/-
  Plain lemmas on winners, defeats and games of players: no program.
-/
import Derived.Test.YtbaljgdepicigaaBase
import Derived.Test.YtbaljgdepicigaaMathA
import Derived.Test.YtbaljgdepicigaaMathD
import Derived.Test.YtbaljgdepicigaaMathB
import Derived.Test.YtbaljgdepicigaaMathU
import Derived.Test.YtbaljgdepicigaaMathG
import Derived.Test.YtbaljgdepicigaaMathX
import Derived.Test.YtbaljgdepicigaaMathL
namespace Go.Proofs.Ytbaljgdepicigaa
set_option linter.unusedVariables false

/-- In how many games a player is. -/
def playsOf (g : List (List Int)) (a : Int) : Nat := g.countP fun x => decide (a ∈ x)
def firstOf (g : List (List Int)) (a : Int) : Nat := g.countP fun x => x.getD 0 0 == a
theorem plays_split {g : List (List Int)} (h : ∀ x ∈ g, ∃ u v : Int, x = [u, v] ∧ u ≠ v) (a : Int) : playsOf g a = firstOf g a + lossOf g a := by
  induction g with
  | nil => rfl
  | cons x g ih =>
    have ih := ih fun y hy => h y (by simp [hy])
    obtain ⟨u, v, rfl, huv⟩ := h x (by simp)
    unfold playsOf firstOf lossOf at ih ⊢
    simp only [List.countP_cons, ih, List.getD_cons_zero, List.getD_cons_succ, List.mem_cons, List.not_mem_nil, or_false]
    by_cases h1 : u = a <;> by_cases h2 : v = a
    · exact absurd (h1.trans h2.symm) huv
    · simp [h1, h2]; omega
    · have h3 : ¬ a = u := fun e => h1 e.symm
      simp [h1, h2, h3]; omega
    · have h3 : ¬ a = u := fun e => h1 e.symm
      have h4 : ¬ a = v := fun e => h2 e.symm
      simp [h1, h2, h3, h4]
theorem double_two (xs : List Int) {o : List Int} (ho : o.Nodup) : ∀ x ∈ doubleG xs o, ∃ u v : Int, x = [u, v] ∧ u ≠ v ∧ u ∈ o ∧ v ∈ o := by
  unfold doubleG endD
  exact game_two ho fun i hi => (lenD_ok xs o).2 i hi
theorem countP_snoc {α : Type} (p : α → Bool) {g : List α} {k : Nat} {x : α} (h : g[k]? = some x) : (g.take (k + 1)).countP p = (g.take k).countP p + if p x = true then 1 else 0 := by
  rw [List.take_add_one, h]; simp [List.countP_append, List.countP_cons]
theorem placesD_len (xs o : List Int) : (placesD xs o).length = o.length := (placesD_perm xs o).length_eq

end Go.Proofs.Ytbaljgdepicigaa
