/-
  Plain lemmas on distances and plans: no program.
-/
import Derived.Test.YtbaljgdepicigaaBase
import Derived.Test.YtbaljgdepicigaaMathA
namespace Go.Proofs.Ytbaljgdepicigaa
set_option linter.unusedVariables false

/-- A possible number of clubs. -/
def clubs (n : Int) : Prop := (2 ≤ n ∧ n ≤ 10) ∧ n % 2 = 0
instance (n : Int) : Decidable (clubs n) := by unfold clubs; infer_instance
def at2 (rows : List (List Int)) (a b : Nat) : Int := (rows.getD a []).getD b 0
theorem at2_get {rows : List (List Int)} {a b : Nat} {r : List Int} {x : Int} (h : rows[a]? = some r) (h2 : r[b]? = some x) : at2 rows a b = x := by simp [at2, List.getD, h, h2]
def rowOk (n : Int) (r : List Int) : Prop := (r.length : Int) = n ∧ ∀ x ∈ r, 0 ≤ x ∧ x ≤ 1000
instance (n : Int) (r : List Int) : Decidable (rowOk n r) := by unfold rowOk; infer_instance
/-- Distances of n clubs. -/
def distOk (n : Int) (rows : List (List Int)) : Prop :=
  clubs n ∧ (rows.length : Int) = n ∧ (∀ r ∈ rows, rowOk n r) ∧ ∀ a, a < rows.length → at2 rows a a = 0 ∧ ∀ b, b < a → at2 rows a b = at2 rows b a
instance (n : Int) (rows : List (List Int)) : Decidable (distOk n rows) := by unfold distOk; infer_instance
theorem dist_sym {n : Int} {rows : List (List Int)} (h : distOk n rows) {a b : Nat} (ha : a < rows.length) (hb : b < rows.length) : at2 rows a b = at2 rows b a := by
  rcases Nat.lt_trichotomy b a with e | e | e
  · exact (h.2.2.2 a ha).2 b e
  · subst e; rfl
  · exact ((h.2.2.2 b hb).2 a e).symm
/-- No way round is shorter. -/
def isMetric (n : Int) (rows : List (List Int)) : Prop :=
  distOk n rows ∧ ∀ a, a < rows.length → ∀ b, b < rows.length → ∀ c, c < rows.length → at2 rows a c ≤ at2 rows a b + at2 rows b c
instance (n : Int) (rows : List (List Int)) : Decidable (isMetric n rows) := by unfold isMetric; infer_instance
/-- A cell of distances. -/
theorem dist_cell {n : Int} {rows : List (List Int)} {r : List Int} {a : Nat} (h : distOk n rows) (hr : rows[a]? = some r) : r.length = rows.length := by
  have h1 := (h.2.2.1 r (List.mem_of_getElem? hr)).1
  have h2 := h.2.1
  omega

/-- The opponent that an entry of a round names. -/
def opp (v : Int) : Int := max v (-v) - 1
theorem opp_bound {v n : Int} (h0 : ¬ v = 0) (h : -n ≤ v ∧ v ≤ n) : 0 ≤ opp v ∧ opp v < n := by unfold opp; omega
/-- The entry of club k is answered by its opponent's. -/
def meets (r : List Int) (k : Nat) : Prop := ¬ opp (r.getD k 0) = (k : Int) ∧ r.getD (opp (r.getD k 0)).toNat 0 = if 0 < r.getD k 0 then -((k : Int) + 1) else (k : Int) + 1
instance (r : List Int) (k : Nat) : Decidable (meets r k) := by unfold meets; infer_instance
def planRow (n : Int) (r : List Int) : Prop := (r.length : Int) = n ∧ (∀ x ∈ r, ¬ x = 0 ∧ -n ≤ x ∧ x ≤ n) ∧ ∀ k, k < r.length → meets r k
instance (n : Int) (r : List Int) : Decidable (planRow n r) := by unfold planRow; infer_instance
def planOk (n : Int) (rows : List (List Int)) : Prop := clubs n ∧ rows.length ≤ 36 ∧ ∀ r ∈ rows, planRow n r
instance (n : Int) (rows : List (List Int)) : Decidable (planOk n rows) := by unfold planOk; infer_instance
theorem meets_iff {r : List Int} {k o : Nat} {v y : Int} (hv : r[k]? = some v) (ho : opp v = (o : Int)) (hy : r[o]? = some y) : meets r k ↔ ¬ o = k ∧ y = if 0 < v then -((k : Int) + 1) else (k : Int) + 1 := by
  have e1 : r.getD k 0 = v := by simp [List.getD, hv]
  have e2 : r.getD o 0 = y := by simp [List.getD, hy]
  unfold meets
  rw [e1, ho, Int.toNat_natCast, e2]
  exact ⟨fun h => ⟨fun e => h.1 (by rw [e]), h.2⟩, fun h => ⟨fun e => h.1 (by omega), h.2⟩⟩
/-- A plan, and a club of it. -/
def ofPlan (n : Int) (rows : List (List Int)) (k : Int) : Prop := planOk n rows ∧ 0 ≤ k ∧ k ≤ n - 1
instance (n : Int) (rows : List (List Int)) (k : Int) : Decidable (ofPlan n rows k) := by unfold ofPlan; infer_instance
/-- The greatest number of rounds in a row, and that of the last ones, among the first k. -/
def runs (p : List Int → Bool) (rows : List (List Int)) : Nat → Int × Int
  | 0 => (0, 0)
  | k + 1 => let r := if p (rows.getD k []) then (runs p rows k).2 + 1 else 0; (max (runs p rows k).1 r, r)
theorem runs_bound (p : List Int → Bool) (rows : List (List Int)) (k : Nat) : 0 ≤ (runs p rows k).1 ∧ (runs p rows k).1 ≤ k ∧ 0 ≤ (runs p rows k).2 ∧ (runs p rows k).2 ≤ k := by
  induction k with
  | zero => simp [runs]
  | succ k ih => simp only [runs]; split <;> omega
theorem runs_yes {p : List Int → Bool} {rows : List (List Int)} {k : Nat} {r : List Int} (h : rows[k]? = some r) (hp : p r = true) : runs p rows (k + 1) = (max (runs p rows k).1 ((runs p rows k).2 + 1), (runs p rows k).2 + 1) := by
  simp [runs, List.getD, h, hp]
theorem runs_no {p : List Int → Bool} {rows : List (List Int)} {k : Nat} {r : List Int} (h : rows[k]? = some r) (hp : p r = false) : runs p rows (k + 1) = (max (runs p rows k).1 0, 0) := by
  simp [runs, List.getD, h, hp]
def homeAt (k : Nat) (r : List Int) : Bool := decide (0 < r.getD k 0)
def awayAt (k : Nat) (r : List Int) : Bool := decide (r.getD k 0 < 0)
theorem runs_congr {p q : List Int → Bool} {rows : List (List Int)} {k : Nat} (hk : k ≤ rows.length) (h : ∀ r ∈ rows, p r = q r) : runs p rows k = runs q rows k := by
  induction k with
  | zero => rfl
  | succ k ih =>
    have hr : rows.getD k [] ∈ rows := by
      rw [List.getD, List.getElem?_eq_getElem (by omega)]
      exact List.getElem_mem _
    simp only [runs, ih (by omega), h _ hr]
def longest (p : Nat → List Int → Bool) (n : Int) (rows : List (List Int)) (k : Int) : Int := if ofPlan n rows k then (runs (p k.toNat) rows rows.length).1 else -1
theorem plan_row {n : Int} {rows : List (List Int)} (h : planOk n rows) {r : List Int} (hr : r ∈ rows) : (r.length : Int) = n := (h.2.2 r hr).1
/-- Where club k plays in a round. -/
def placeAt (k : Nat) (r : List Int) : Int := if 0 < r.getD k 0 then (k : Int) else opp (r.getD k 0)
def placesOf (rows : List (List Int)) (k : Nat) : List Int := rows.map (placeAt k)
theorem placesOf_snoc {rows : List (List Int)} {i : Nat} {r : List Int} (k : Nat) (h : rows[i]? = some r) : placesOf (rows.take (i + 1)) k = placesOf (rows.take i) k ++ [placeAt k r] := by
  rw [take_snoc_of h]; simp [placesOf]
theorem placesOf_len (rows : List (List Int)) (k : Nat) : (placesOf rows k).length = rows.length := by simp [placesOf]
theorem plan_at {n : Int} {rows : List (List Int)} (h : planOk n rows) {r : List Int} (hr : r ∈ rows) {x : Int} (hx : x ∈ r) : ¬ x = 0 ∧ -n ≤ x ∧ x ≤ n := (h.2.2 r hr).2.1 x hx
theorem placesOf_bound {n : Int} {rows : List (List Int)} (h : planOk n rows) {k : Nat} (hk : (k : Int) < n) : ∀ x ∈ placesOf rows k, 0 ≤ x ∧ x < n := by
  intro x hx
  simp only [placesOf, List.mem_map] at hx
  obtain ⟨r, hr, rfl⟩ := hx
  have hl := plan_row h hr
  have hm := plan_at h hr (x := r.getD k 0) (by rw [List.getD, List.getElem?_eq_getElem (by omega)]; exact List.getElem_mem _)
  have := opp_bound hm.1 hm.2
  unfold placeAt
  split <;> omega
def places (n : Int) (rows : List (List Int)) (k : Int) : List Int := if ofPlan n rows k then placesOf rows k.toNat else []
/-- The way and the place behind the first i of a list of places, from k on. -/
def wayTo (far : List (List Int)) (ps : List Int) (k : Nat) : Nat → Int × Nat
  | 0 => (0, k)
  | i + 1 => ((wayTo far ps k i).1 + at2 far (wayTo far ps k i).2 (ps.getD i 0).toNat, (ps.getD i 0).toNat)
theorem at2_bound {n : Int} {far : List (List Int)} (h : distOk n far) (a b : Nat) : 0 ≤ at2 far a b ∧ at2 far a b ≤ 1000 := by
  unfold at2
  rw [List.getD, List.getD]
  cases ha : far[a]? with
  | none => simp
  | some r =>
    simp only [Option.getD_some]
    cases hb : r[b]? with
    | none => simp
    | some x => exact (h.2.2.1 r (List.mem_of_getElem? ha)).2 x (List.mem_of_getElem? hb)
theorem wayTo_bound {n : Int} {far : List (List Int)} (h : distOk n far) {ps : List Int} {k : Nat} (hk : (k : Int) < n) (hp : ∀ x ∈ ps, 0 ≤ x ∧ x < n) (i : Nat) :
    0 ≤ (wayTo far ps k i).1 ∧ (wayTo far ps k i).1 ≤ 1000 * i ∧ ((wayTo far ps k i).2 : Int) < n := by
  induction i with
  | zero => simp [wayTo]; exact hk
  | succ i ih =>
    have h1 := at2_bound h (wayTo far ps k i).2 (ps.getD i 0).toNat
    simp only [wayTo]
    refine ⟨by omega, by omega, ?_⟩
    rw [List.getD]
    cases hx : ps[i]? with
    | none => simp; omega
    | some x => have := hp x (List.mem_of_getElem? hx); simp; omega
def tripOf (rows far : List (List Int)) (k : Nat) : Int := (wayTo far (placesOf rows k ++ [(k : Int)]) k (rows.length + 1)).1
def trip (n : Int) (rows far : List (List Int)) (k : Int) : Int := if ofPlan n rows k ∧ distOk n far then tripOf rows far k.toNat else -1
theorem trip_places {n : Int} {rows : List (List Int)} (h : planOk n rows) {k : Nat} (hk : (k : Int) < n) : ∀ x ∈ placesOf rows k ++ [(k : Int)], 0 ≤ x ∧ x < n := by
  intro x hx
  rcases List.mem_append.1 hx with hx | hx
  · exact placesOf_bound h hk x hx
  · simp at hx; subst hx; omega
theorem tripOf_bound {n : Int} {rows far : List (List Int)} (h : planOk n rows) (hd : distOk n far) {k : Nat} (hk : (k : Int) < n) : 0 ≤ tripOf rows far k ∧ tripOf rows far k ≤ 37000 := by
  have := wayTo_bound hd hk (trip_places h hk) (rows.length + 1)
  have := h.2.1
  unfold tripOf
  omega
def travelTo (rows far : List (List Int)) : Nat → Int
  | 0 => 0
  | k + 1 => travelTo rows far k + tripOf rows far k
theorem travelTo_bound {n : Int} {rows far : List (List Int)} (h : planOk n rows) (hd : distOk n far) {k : Nat} (hk : (k : Int) ≤ n) : 0 ≤ travelTo rows far k ∧ travelTo rows far k ≤ 37000 * k := by
  induction k with
  | zero => simp [travelTo]
  | succ k ih =>
    have := tripOf_bound h hd (k := k) (by omega)
    have := ih (by omega)
    simp only [travelTo]
    omega
def travel (n : Int) (rows far : List (List Int)) : Int := if planOk n rows ∧ distOk n far then travelTo rows far n.toNat else -1
theorem places_len (n : Int) (rows : List (List Int)) (k : Int) : (places n rows k).length ≤ rows.length := by
  unfold places
  split
  · rw [placesOf_len]; exact Nat.le_refl _
  · simp

end Go.Proofs.Ytbaljgdepicigaa
