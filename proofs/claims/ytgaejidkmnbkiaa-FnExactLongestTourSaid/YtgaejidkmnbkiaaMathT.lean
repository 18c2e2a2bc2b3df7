/-
  Plain lemmas on distances and plans: no program.
-/
import Derived.Test.YtgaejidkmnbkiaaBase
import Derived.Test.YtgaejidkmnbkiaaMathA
namespace Go.Proofs.Ytgaejidkmnbkiaa
set_option linter.unusedVariables false

/-- A possible number of clubs. -/
def clubs (n : Int) : Prop := (2 ≤ n ∧ n ≤ 10) ∧ n % 2 = 0
instance (n : Int) : Decidable (clubs n) := by unfold clubs; infer_instance
def at2 (rows : List (List Int)) (a b : Nat) : Int := (rows.getD a []).getD b 0
theorem at2_get {rows : List (List Int)} {a b : Nat} {r : List Int} {x : Int} (h : rows[a]? = some r) (h2 : r[b]? = some x) : at2 rows a b = x := by simp [at2, List.getD, h, h2]
def rowOk (n : Int) (r : List Int) : Prop := (r.length : Int) = n ∧ ∀ x ∈ r, 0 ≤ x ∧ x ≤ 1000
instance (n : Int) (r : List Int) : Decidable (rowOk n r) := by unfold rowOk; infer_instance
/-- Distances of n clubs. -/
def distOk (n : Int) (rows : List (List Int)) : Prop :=
  clubs n ∧ (rows.length : Int) = n ∧ (∀ r ∈ rows, rowOk n r) ∧ ∀ a, a < rows.length → at2 rows a a = 0 ∧ ∀ b, b < a → at2 rows a b = at2 rows b a
instance (n : Int) (rows : List (List Int)) : Decidable (distOk n rows) := by unfold distOk; infer_instance
theorem dist_sym {n : Int} {rows : List (List Int)} (h : distOk n rows) {a b : Nat} (ha : a < rows.length) (hb : b < rows.length) : at2 rows a b = at2 rows b a := by
  rcases Nat.lt_trichotomy b a with e | e | e
  · exact (h.2.2.2 a ha).2 b e
  · subst e; rfl
  · exact ((h.2.2.2 b hb).2 a e).symm
/-- No way round is shorter. -/
def isMetric (n : Int) (rows : List (List Int)) : Prop :=
  distOk n rows ∧ ∀ a, a < rows.length → ∀ b, b < rows.length → ∀ c, c < rows.length → at2 rows a c ≤ at2 rows a b + at2 rows b c
instance (n : Int) (rows : List (List Int)) : Decidable (isMetric n rows) := by unfold isMetric; infer_instance
/-- A cell of distances. -/
theorem dist_cell {n : Int} {rows : List (List Int)} {r : List Int} {a : Nat} (h : distOk n rows) (hr : rows[a]? = some r) : r.length = rows.length := by
  have h1 := (h.2.2.1 r (List.mem_of_getElem? hr)).1
  have h2 := h.2.1
  omega

/-- The opponent that an entry of a round names. -/
def opp (v : Int) : Int := max v (-v) - 1
theorem opp_bound {v n : Int} (h0 : ¬ v = 0) (h : -n ≤ v ∧ v ≤ n) : 0 ≤ opp v ∧ opp v < n := by unfold opp; omega
/-- The entry of club k is answered by its opponent's. -/
def meets (r : List Int) (k : Nat) : Prop := ¬ opp (r.getD k 0) = (k : Int) ∧ r.getD (opp (r.getD k 0)).toNat 0 = if 0 < r.getD k 0 then -((k : Int) + 1) else (k : Int) + 1
instance (r : List Int) (k : Nat) : Decidable (meets r k) := by unfold meets; infer_instance
def planRow (n : Int) (r : List Int) : Prop := (r.length : Int) = n ∧ (∀ x ∈ r, ¬ x = 0 ∧ -n ≤ x ∧ x ≤ n) ∧ ∀ k, k < r.length → meets r k
instance (n : Int) (r : List Int) : Decidable (planRow n r) := by unfold planRow; infer_instance
def planOk (n : Int) (rows : List (List Int)) : Prop := clubs n ∧ rows.length ≤ 36 ∧ ∀ r ∈ rows, planRow n r
instance (n : Int) (rows : List (List Int)) : Decidable (planOk n rows) := by unfold planOk; infer_instance
theorem meets_iff {r : List Int} {k o : Nat} {v y : Int} (hv : r[k]? = some v) (ho : opp v = (o : Int)) (hy : r[o]? = some y) : meets r k ↔ ¬ o = k ∧ y = if 0 < v then -((k : Int) + 1) else (k : Int) + 1 := by
  have e1 : r.getD k 0 = v := by simp [List.getD, hv]
  have e2 : r.getD o 0 = y := by simp [List.getD, hy]
  unfold meets
  rw [e1, ho, Int.toNat_natCast, e2]
  exact ⟨fun h => ⟨fun e => h.1 (by rw [e]), h.2⟩, fun h => ⟨fun e => h.1 (by omega), h.2⟩⟩
/-- A plan, and a club of it. -/
def ofPlan (n : Int) (rows : List (List Int)) (k : Int) : Prop := planOk n rows ∧ 0 ≤ k ∧ k ≤ n - 1
instance (n : Int) (rows : List (List Int)) (k : Int) : Decidable (ofPlan n rows k) := by unfold ofPlan; infer_instance
/-- The greatest number of rounds in a row, and that of the last ones, among the first k. -/
def runs (p : List Int → Bool) (rows : List (List Int)) : Nat → Int × Int
  | 0 => (0, 0)
  | k + 1 => let r := if p (rows.getD k []) then (runs p rows k).2 + 1 else 0; (max (runs p rows k).1 r, r)
theorem runs_bound (p : List Int → Bool) (rows : List (List Int)) (k : Nat) : 0 ≤ (runs p rows k).1 ∧ (runs p rows k).1 ≤ k ∧ 0 ≤ (runs p rows k).2 ∧ (runs p rows k).2 ≤ k := by
  induction k with
  | zero => simp [runs]
  | succ k ih => simp only [runs]; split <;> omega
theorem runs_yes {p : List Int → Bool} {rows : List (List Int)} {k : Nat} {r : List Int} (h : rows[k]? = some r) (hp : p r = true) : runs p rows (k + 1) = (max (runs p rows k).1 ((runs p rows k).2 + 1), (runs p rows k).2 + 1) := by
  simp [runs, List.getD, h, hp]
theorem runs_no {p : List Int → Bool} {rows : List (List Int)} {k : Nat} {r : List Int} (h : rows[k]? = some r) (hp : p r = false) : runs p rows (k + 1) = (max (runs p rows k).1 0, 0) := by
  simp [runs, List.getD, h, hp]
def homeAt (k : Nat) (r : List Int) : Bool := decide (0 < r.getD k 0)
def awayAt (k : Nat) (r : List Int) : Bool := decide (r.getD k 0 < 0)
theorem runs_congr {p q : List Int → Bool} {rows : List (List Int)} {k : Nat} (hk : k ≤ rows.length) (h : ∀ r ∈ rows, p r = q r) : runs p rows k = runs q rows k := by
  induction k with
  | zero => rfl
  | succ k ih =>
    have hr : rows.getD k [] ∈ rows := by
      rw [List.getD, List.getElem?_eq_getElem (by omega)]
      exact List.getElem_mem _
    simp only [runs, ih (by omega), h _ hr]
def longest (p : Nat → List Int → Bool) (n : Int) (rows : List (List Int)) (k : Int) : Int := if ofPlan n rows k then (runs (p k.toNat) rows rows.length).1 else -1
theorem plan_row {n : Int} {rows : List (List Int)} (h : planOk n rows) {r : List Int} (hr : r ∈ rows) : (r.length : Int) = n := (h.2.2 r hr).1

end Go.Proofs.Ytgaejidkmnbkiaa
