/-
  Plain lemmas on distances and plans: no program.
-/
import Derived.Test.YtgaejidkmnbkiaaBase
import Derived.Test.YtgaejidkmnbkiaaMathA
namespace Go.Proofs.Ytgaejidkmnbkiaa
set_option linter.unusedVariables false

/-- A possible number of clubs. -/
def clubs (n : Int) : Prop := (2 ≤ n ∧ n ≤ 10) ∧ n % 2 = 0
instance (n : Int) : Decidable (clubs n) := by unfold clubs; infer_instance
def at2 (rows : List (List Int)) (a b : Nat) : Int := (rows.getD a []).getD b 0
theorem at2_get {rows : List (List Int)} {a b : Nat} {r : List Int} {x : Int} (h : rows[a]? = some r) (h2 : r[b]? = some x) : at2 rows a b = x := by simp [at2, List.getD, h, h2]
def rowOk (n : Int) (r : List Int) : Prop := (r.length : Int) = n ∧ ∀ x ∈ r, 0 ≤ x ∧ x ≤ 1000
instance (n : Int) (r : List Int) : Decidable (rowOk n r) := by unfold rowOk; infer_instance
/-- Distances of n clubs. -/
def distOk (n : Int) (rows : List (List Int)) : Prop :=
  clubs n ∧ (rows.length : Int) = n ∧ (∀ r ∈ rows, rowOk n r) ∧ ∀ a, a < rows.length → at2 rows a a = 0 ∧ ∀ b, b < a → at2 rows a b = at2 rows b a
instance (n : Int) (rows : List (List Int)) : Decidable (distOk n rows) := by unfold distOk; infer_instance
theorem dist_sym {n : Int} {rows : List (List Int)} (h : distOk n rows) {a b : Nat} (ha : a < rows.length) (hb : b < rows.length) : at2 rows a b = at2 rows b a := by
  rcases Nat.lt_trichotomy b a with e | e | e
  · exact (h.2.2.2 a ha).2 b e
  · subst e; rfl
  · exact ((h.2.2.2 b hb).2 a e).symm
/-- No way round is shorter. -/
def isMetric (n : Int) (rows : List (List Int)) : Prop :=
  distOk n rows ∧ ∀ a, a < rows.length → ∀ b, b < rows.length → ∀ c, c < rows.length → at2 rows a c ≤ at2 rows a b + at2 rows b c
instance (n : Int) (rows : List (List Int)) : Decidable (isMetric n rows) := by unfold isMetric; infer_instance
/-- A cell of distances. -/
theorem dist_cell {n : Int} {rows : List (List Int)} {r : List Int} {a : Nat} (h : distOk n rows) (hr : rows[a]? = some r) : r.length = rows.length := by
  have h1 := (h.2.2.1 r (List.mem_of_getElem? hr)).1
  have h2 := h.2.1
  omega

end Go.Proofs.Ytgaejidkmnbkiaa
