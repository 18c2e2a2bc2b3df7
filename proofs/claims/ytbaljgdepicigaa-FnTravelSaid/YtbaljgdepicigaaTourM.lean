/-
  Contract of the reference's shortest tour.
-/
import Derived.Laws.ShiftsVar
import Derived.Deep.RegionHeld3
import Derived.Test.YtbaljgdepicigaaBase
import Derived.Test.YtbaljgdepicigaaMathA
import Derived.Test.YtbaljgdepicigaaMathD
import Derived.Test.YtbaljgdepicigaaLib
import Derived.Test.YtbaljgdepicigaaAid
import Derived.Test.YtbaljgdepicigaaStep
import Derived.Test.YtbaljgdepicigaaGrid
import Derived.Test.YtbaljgdepicigaaMathT
import Derived.Test.YtbaljgdepicigaaMathM
import Derived.Test.YtbaljgdepicigaaTen
namespace Go.Proofs.Ytbaljgdepicigaa
open Go.RowKit
set_option linter.unusedVariables false

-- words of tours
/-- Distances as they lie: a row and a cell of it. -/
theorem far_cell {w : World} {A : Option Addr} {N c : Nat} {rows : List (List Int)} {n : Int} (h : Grid w A N c rows) (hd : distOk n rows) {a b : Nat} (ha : a < N) (hb : b < N) :
    ∃ b1 o1 b2 o2 d, A = some ⟨b1, o1, none⟩ ∧ w.cell? ⟨b1, o1 + a, none⟩ = some (.slice (some ⟨b2, o2, none⟩) N d) ∧ w.cell? ⟨b2, o2 + b, none⟩ = some (.int .i64 (at2 rows a b)) := by
  have hl := h.len
  obtain ⟨b1, o1, B, d, r, e, _, hr, hc, hi⟩ := h.get ha
  have hrl := dist_cell hd hr
  rw [hrl, hl] at hc hi
  obtain ⟨b2, o2, x, e2, _, hx, _, hcx⟩ := hi.get hb
  subst e2
  exact ⟨b1, o1, b2, o2, d, e, hc, by rw [hcx, at2_get hr hx]⟩
theorem take_els {set k : Nat} {p : Int} {f : Int → Int} (h : (els set)[k]? = some p) : minOf f ((els set).take (k + 1)) = if minOf f ((els set).take k) < 0 ∨ f p < minOf f ((els set).take k) then f p else minOf f ((els set).take k) := minOf_take f h
theorem leg_min_bound {n : Int} {rows : List (List Int)} (h : distOk n rows) (home at_ set k : Nat) (hs : set < 1024) : -1 ≤ minOf (legOf rows home at_ set) ((els set).take k) ∧ minOf (legOf rows home at_ set) ((els set).take k) ≤ 12000 := by
  have := minOf_bound (f := legOf rows home at_ set) (B := 12000) (by omega) ((els set).take k) fun p _ => leg_bound h home at_ set hs p
  exact ⟨this.1, this.2.1⟩

end Go.Proofs.Ytbaljgdepicigaa
