/-
  Contracts of double elimination: the reference's games.
-/
import Derived.Laws.ShiftsVar
import Derived.Deep.RegionLaw
import Derived.Deep.RegionHeld3
import Derived.Test.YtbaljgdepicigaaBase
import Derived.Test.YtbaljgdepicigaaMathA
import Derived.Test.YtbaljgdepicigaaMathD
import Derived.Test.YtbaljgdepicigaaLib
import Derived.Test.YtbaljgdepicigaaAid
import Derived.Test.YtbaljgdepicigaaStep
import Derived.Test.YtbaljgdepicigaaGrid
import Derived.Test.YtbaljgdepicigaaLibF
import Derived.Test.YtbaljgdepicigaaMathB
import Derived.Test.YtbaljgdepicigaaMathU
import Derived.Test.YtbaljgdepicigaaMathW
import Derived.Test.YtbaljgdepicigaaMathZ
import Derived.Test.YtbaljgdepicigaaMathY
import Derived.Test.YtbaljgdepicigaaPop
import Derived.Test.YtbaljgdepicigaaMathG
import Derived.Test.YtbaljgdepicigaaMathX
import Derived.Test.YtbaljgdepicigaaDblA
import Derived.Test.YtbaljgdepicigaaSeed
import Derived.Test.YtbaljgdepicigaaTour
import Derived.Test.YtbaljgdepicigaaTourB
import Derived.Test.YtbaljgdepicigaaDblB
namespace Go.Proofs.Ytbaljgdepicigaa
open Go.RowKit
set_option linter.unusedVariables false

-- words
/-- How long a slice is. -/
def lenV : Value → Nat
  | .slice _ k _ => k
  | _ => 0
theorem stD_mem {xs o : List Int} {n j : Nat} (hob : ∀ x ∈ o, ∃ p : Nat, x = (p : Int) ∧ p < n) (h : ∀ i, i < j → goOn (stD xs o i)) : ∀ x, (x ∈ (stD xs o j).f ∨ x ∈ (stD xs o j).s) → ∃ p : Nat, x = (p : Int) ∧ p < n := fun x hx =>
  allD_bound h (P := fun x => ∃ p : Nat, x = (p : Int) ∧ p < n) hob x (by unfold allD; rcases hx with hx | hx <;> simp [hx])
theorem stD_a {xs o : List Int} {j : Nat} {p q u v : Int} (hl : 2 ≤ (stD xs o j).f.length) (h0 : (stD xs o j).f[0]? = some p) (h1 : (stD xs o j).f[1]? = some q) (hu : won xs p q = u) (hv : lostG xs p q = v) :
    (stD xs o (j + 1)).f = (stD xs o j).f.drop 2 ++ [u] ∧ (stD xs o (j + 1)).s = (stD xs o j).s ++ [v] ∧ (stD xs o (j + 1)).p = (stD xs o j).p ∧ (stD xs o (j + 1)).g = (stD xs o j).g ++ [[u, v]] := by
  simp only [stD, stepD, if_pos hl, getD_of h0, getD_of h1, meetG, hu, hv]
  exact ⟨trivial, trivial, trivial, trivial⟩
theorem stD_b {xs o : List Int} {j : Nat} {p q u v : Int} (hf : ¬ 2 ≤ (stD xs o j).f.length) (hl : 2 ≤ (stD xs o j).s.length) (h0 : (stD xs o j).s[0]? = some p) (h1 : (stD xs o j).s[1]? = some q) (hu : won xs p q = u) (hv : lostG xs p q = v) :
    (stD xs o (j + 1)).f = (stD xs o j).f ∧ (stD xs o (j + 1)).s = (stD xs o j).s.drop 2 ++ [u] ∧ (stD xs o (j + 1)).p = (stD xs o j).p ++ [v] ∧ (stD xs o (j + 1)).g = (stD xs o j).g ++ [[u, v]] := by
  simp only [stD, stepD, if_neg hf, if_pos hl, getD_of h0, getD_of h1, meetG, hu, hv]
  exact ⟨trivial, trivial, trivial, trivial⟩
theorem stD_c {xs o : List Int} {j : Nat} {p q u v : Int} (hf : ¬ 2 ≤ (stD xs o j).f.length) (hl : ¬ 2 ≤ (stD xs o j).s.length) (h0 : (stD xs o j).f[0]? = some p) (h1 : (stD xs o j).s[0]? = some q) (hu : won xs p q = u) (hv : lostG xs p q = v) (hne : p ≠ q) :
    (stD xs o (j + 1)).g = (stD xs o j).g ++ [[u, v]] ∧ (u = p → (stD xs o (j + 1)).f = (stD xs o j).f ∧ (stD xs o (j + 1)).s = [] ∧ (stD xs o (j + 1)).p = (stD xs o j).p ++ [v]) ∧
    (u ≠ p → (stD xs o (j + 1)).f = [] ∧ (stD xs o (j + 1)).s = [v, u] ∧ (stD xs o (j + 1)).p = (stD xs o j).p ∧ v = p ∧ u = q) := by
  simp only [stD, stepD, if_neg hf, if_neg hl, getD_of h0, getD_of h1]
  unfold won at hu
  unfold lostG at hv
  by_cases hb : beatsI xs p q
  · rw [if_pos hb] at hu hv
    simp only [if_pos hb]
    subst hu hv
    exact ⟨by trivial, fun _ => ⟨by trivial, by trivial, by trivial⟩, fun h => absurd rfl h⟩
  · rw [if_neg hb] at hu hv
    simp only [if_neg hb]
    subst hu hv
    exact ⟨by trivial, fun h => absurd h.symm hne, fun _ => ⟨by trivial, by trivial, by trivial, by trivial, by trivial⟩⟩
theorem stD_ne {xs o : List Int} {j : Nat} {p q : Int} (ho : o.Nodup) (h : ∀ i, i < j → goOn (stD xs o i)) (h0 : p ∈ (stD xs o j).f) (h1 : q ∈ (stD xs o j).s) : p ≠ q := by
  have hn := (perm_st xs o h).nodup_iff.2 ho
  unfold allD at hn
  rw [List.nodup_append, List.nodup_append] at hn
  exact hn.1.2.2 p h0 q h1
theorem stD_go {xs o : List Int} {j : Nat} (h : ∀ i, i < j → goOn (stD xs o i)) (hj : goOn (stD xs o j)) : ∀ i, i < j + 1 → goOn (stD xs o i) := fun i hi => by
  by_cases e : i = j
  · rw [e]; exact hj
  · exact h i (by omega)

end Go.Proofs.Ytbaljgdepicigaa
