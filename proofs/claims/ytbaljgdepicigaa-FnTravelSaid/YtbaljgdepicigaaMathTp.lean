/-
  Plain lemmas on plans of rounds: how plans that are drawn stay plans. No program.
-/
import Derived.Test.YtbaljgdepicigaaBase
import Derived.Test.YtbaljgdepicigaaMathA
import Derived.Test.YtbaljgdepicigaaMathB
import Derived.Test.YtbaljgdepicigaaMathT
import Derived.Test.YtbaljgdepicigaaMathM
import Derived.Test.YtbaljgdepicigaaMathTr
namespace Go.Proofs.Ytbaljgdepicigaa
set_option linter.unusedVariables false

/-- Home and away exchanged. -/
def negR (r : List Int) : List Int := r.map fun x => -x
def turnP (rows : List (List Int)) : List (List Int) := rows.map negR
theorem negR_len (r : List Int) : (negR r).length = r.length := by simp [negR]
theorem turnP_len (rows : List (List Int)) : (turnP rows).length = rows.length := by simp [turnP]
theorem negR_negR (r : List Int) : negR (negR r) = r := by
  unfold negR
  rw [List.map_map]
  exact (List.map_congr_left fun x _ => (by show - -x = x; omega)).trans (List.map_id _)
theorem turnP_turnP (rows : List (List Int)) : turnP (turnP rows) = rows := by
  unfold turnP
  rw [List.map_map]
  exact (List.map_congr_left fun x _ => (by show negR (negR x) = x; exact negR_negR x)).trans (List.map_id _)
theorem negR_snoc {r : List Int} {k : Nat} {x : Int} (h : r[k]? = some x) : negR (r.take (k + 1)) = negR (r.take k) ++ [-x] := by
  rw [take_snoc_of h]; simp [negR]
theorem turnP_snoc {rows : List (List Int)} {k : Nat} {r : List Int} (h : rows[k]? = some r) : turnP (rows.take (k + 1)) = turnP (rows.take k) ++ [negR r] := by
  rw [take_snoc_of h]; simp [turnP]
theorem negR_getD (r : List Int) (k : Nat) : (negR r).getD k 0 = -(r.getD k 0) := by
  unfold negR
  rw [List.getD_eq_getElem?_getD, List.getD_eq_getElem?_getD, List.getElem?_map]
  cases r[k]? <;> simp
theorem opp_neg (v : Int) : opp (-v) = opp v := by unfold opp; omega
theorem negR_row {n : Int} {r : List Int} (h : planRow n r) : planRow n (negR r) := by
  refine ⟨by rw [negR_len]; exact h.1, fun x hx => ?_, fun k hk => ?_⟩
  · obtain ⟨y, hy, rfl⟩ := List.mem_map.1 hx
    have := h.2.1 y hy
    omega
  · rw [negR_len] at hk
    obtain ⟨h1, h2⟩ := h.2.2 k hk
    have h0 := h.2.1 (r.getD k 0) (by rw [List.getD_eq_getElem?_getD, List.getElem?_eq_getElem hk]; exact List.getElem_mem _)
    refine ⟨by rw [negR_getD, opp_neg]; exact h1, ?_⟩
    rw [negR_getD, negR_getD, opp_neg, h2]
    split <;> split <;> omega
theorem turn_ok {n : Int} {rows : List (List Int)} (h : planOk n rows) : planOk n (turnP rows) :=
  ⟨h.1, by rw [turnP_len]; exact h.2.1, fun r hr => by
    obtain ⟨s, hs, rfl⟩ := List.mem_map.1 hr
    exact negR_row (h.2.2 s hs)⟩
theorem double_ok {n : Int} {rows : List (List Int)} (h : planOk n rows) (hl : rows.length ≤ 18) : planOk n (rows ++ turnP rows) :=
  ⟨h.1, by rw [List.length_append, turnP_len]; omega, fun r hr => by
    rcases List.mem_append.1 hr with hr | hr
    · exact h.2.2 r hr
    · exact (turn_ok h).2.2 r hr⟩
theorem take_ok {n : Int} {rows : List (List Int)} (h : planOk n rows) (k : Nat) : planOk n (rows.take k) :=
  ⟨h.1, by rw [List.length_take]; have := h.2.1; omega, fun r hr => h.2.2 r (List.mem_of_mem_take hr)⟩
/-- Two rounds exchanged. -/
def swapP (rows : List (List Int)) (r s : Nat) : List (List Int) := (rows.set r (rows.getD s [])).set s (rows.getD r [])
theorem swapP_len (rows : List (List Int)) (r s : Nat) : (swapP rows r s).length = rows.length := by simp [swapP]
theorem getD_mem {rows : List (List Int)} {r : Nat} (h : r < rows.length) : rows.getD r [] ∈ rows := by
  rw [List.getD_eq_getElem?_getD, List.getElem?_eq_getElem h]; exact List.getElem_mem _
theorem swap_ok {n : Int} {rows : List (List Int)} {r s : Nat} (h : planOk n rows) (hr : r < rows.length) (hs : s < rows.length) : planOk n (swapP rows r s) :=
  ⟨h.1, by rw [swapP_len]; exact h.2.1, fun x hx => by
    rcases List.mem_or_eq_of_mem_set hx with hx | rfl
    · rcases List.mem_or_eq_of_mem_set hx with hx | rfl
      · exact h.2.2 x hx
      · exact h.2.2 _ (getD_mem hs)
    · exact h.2.2 _ (getD_mem hr)⟩
/-! ### The circle -/
def circI (n r j : Nat) : Nat := (r + j) % (n - 1)
def circK (n r j : Nat) : Nat := (r + n - 1 - j) % (n - 1)
def circ0 (n r : Nat) : List Int := if r % 2 = 1 then ((List.replicate n 0).set (n - 1) ((r : Int) + 1)).set r (-(n : Int)) else ((List.replicate n 0).set r (n : Int)).set (n - 1) (-(r : Int) - 1)
/-- One round, behind the first j pairs. -/
def circR (n r : Nat) : Nat → List Int
  | 0 => circ0 n r
  | j + 1 => if (j + 1) % 2 = 1 then ((circR n r j).set (circI n r (j + 1)) ((circK n r (j + 1) : Int) + 1)).set (circK n r (j + 1)) (-(circI n r (j + 1) : Int) - 1)
    else ((circR n r j).set (circK n r (j + 1)) ((circI n r (j + 1) : Int) + 1)).set (circI n r (j + 1)) (-(circK n r (j + 1) : Int) - 1)
def circP (n r : Nat) : List (List Int) := (List.range r).map fun i => circR n i (n / 2 - 1)
theorem circP_len (n r : Nat) : (circP n r).length = r := by simp [circP]
theorem circP_succ (n r : Nat) : circP n (r + 1) = circP n r ++ [circR n r (n / 2 - 1)] := by simp [circP, List.range_succ]
theorem circR_len (n r : Nat) : ∀ j, (circR n r j).length = n := by
  intro j
  induction j with
  | zero => unfold circR circ0; split <;> simp
  | succ j ih => unfold circR; split <;> simp [ih]
theorem circ_rows : ∀ n : Nat, n < 9 → 2 ≤ n → n % 2 = 0 → ∀ r : Nat, r < n - 1 → planRow (n : Int) (circR n r (n / 2 - 1)) := by decide +kernel
theorem circ_ok {n : Nat} (h2 : 2 ≤ n) (h8 : n ≤ 8) (he : n % 2 = 0) : planOk (n : Int) (circP n (n - 1)) :=
  ⟨⟨by omega, by omega⟩, by rw [circP_len]; omega, fun r hr => by
    obtain ⟨i, hi, rfl⟩ := List.mem_map.1 hr
    exact circ_rows n (by omega) h2 he i (List.mem_range.1 hi)⟩
theorem line_least : tour (lineFar [0, 7, 3, 10]) 0 0 14 = 20 ∧ tour (lineFar [0, 7, 3, 10]) 1 1 13 = 20 := by constructor <;> decide +kernel

end Go.Proofs.Ytbaljgdepicigaa
