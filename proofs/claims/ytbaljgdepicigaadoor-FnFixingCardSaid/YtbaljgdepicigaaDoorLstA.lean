/-
  The least bracket that a player wins: the reference's functions.
-/
import Derived.Deep.RegionHeld3
import Derived.Laws.ShiftsVar
import Derived.Test.YtbaljgdepicigaaDoorBase
import Derived.Test.YtbaljgdepicigaaDoorMgA
import Derived.Test.YtbaljgdepicigaaDoorLib
import Derived.Test.YtbaljgdepicigaaDoorAid
import Derived.Test.YtbaljgdepicigaaDoorStep
import Derived.Test.YtbaljgdepicigaaDoorGrid
import Derived.Test.YtbaljgdepicigaaDoorLibF
import Derived.Test.YtbaljgdepicigaaDoorMgB
import Derived.Test.YtbaljgdepicigaaDoorSeed
import Derived.Test.YtbaljgdepicigaaDoorTour
import Derived.Test.YtbaljgdepicigaaDoorTourB
import Derived.Test.YtbaljgdepicigaaDoorPop
import Derived.Test.YtbaljgdepicigaaDoorWin
import Derived.Test.YtbaljgdepicigaaDoorWinC
namespace Go.Proofs.YtbaljgdepicigaaDoor
open Go.RowKit
set_option linter.unusedVariables false
set_option maxRecDepth 100000

-- words
theorem minL_or {m : Nat} (hm : 0 < m) {l : List (List Int)} (hl : ∀ c ∈ l, c.length = m) : (minL l).length = 0 ∨ (minL l).length = m := by
  by_cases h0 : l = []
  · subst h0; exact .inl rfl
  · exact .inr (hl _ (minL_spec hm hl h0).1)
theorem can_len {s : Int} {xs : List Int} (ht : tourOk s xs) {k set : Nat} (hs : set < 2 ^ xs.length) (hp : pc set = pw2 (k + 1)) {g : Nat} (hv : hal k set g) {a : Nat} {c : List Int}
    (hc : c ∈ canA xs (win xs k) (least xs k) (a : Int) set g ∨ c ∈ canB xs (win xs k) (least xs k) (a : Int) set g) : c.length = pw2 (k + 1) := by
  have hn8 := tourOk_size ht
  have h256 : 2 ^ xs.length ≤ 2 ^ 8 := Nat.pow_le_pow_right (by omega) hn8.2.1
  have hs2 : set < 256 := by omega
  have hh := hal_lt hs2 hp hv
  have hb : ∀ g', hal k set g' → ∀ b : Nat, (win xs k g').testBit b = true → (least xs k (b : Int) g').length = pw2 k := fun g' hg b hb => ((least_ok ht k g' (by have := (hal_lt hs2 hp hg).1; omega) hg.2.2 b).1 hb).1.1
  rcases hc with hc | hc
  · obtain ⟨h4, b, hb8, h5, h6, rfl⟩ := mem_canA.1 hc
    rw [Int.toNat_natCast] at h4
    rw [List.length_append, hb g hv a h4, hb _ hh.2.1 b h5, pw2_eq]; omega
  · obtain ⟨h4, b, hb8, h5, h6, rfl⟩ := mem_canB.1 hc
    rw [Int.toNat_natCast] at h4
    rw [List.length_append, hb g hv b h5, hb _ hh.2.1 a h4, pw2_eq]; omega
theorem cans_len {s : Int} {xs : List Int} (ht : tourOk s xs) {k set : Nat} (hs : set < 2 ^ xs.length) (hp : pc set = pw2 (k + 1)) {a : Nat} (h : Nat) : ∀ c ∈ cans xs (win xs k) (least xs k) (a : Int) set (pw2 k) h, c.length = pw2 (k + 1) := fun c hc => by
  obtain ⟨g, _, hv, h3⟩ := (mem_cans h).1 hc
  exact can_len ht hs hp hv h3
theorem least_half {s : Int} {xs : List Int} (ht : tourOk s xs) {k g : Nat} (hs : g < 2 ^ xs.length) (hp : pc g = pw2 k) {b : Nat} (h : (win xs k g).testBit b = true) : (least xs k (b : Int) g).length = pw2 k := ((least_ok ht k g hs hp b).1 h).1.1
theorem lx_at {us vs : List Int} {i : Nat} {x y : Int} (hp : us.take i = vs.take i) (hx : us[i]? = some x) (hy : vs[i]? = some y) (h : x < y) : lx us vs = true := by
  have e1 : us = us.take i ++ x :: us.drop (i + 1) := by
    have := List.getElem?_eq_some_iff.1 hx
    obtain ⟨h1, rfl⟩ := this
    rw [← List.drop_eq_getElem_cons h1, List.take_append_drop]
  have e2 : vs = vs.take i ++ y :: vs.drop (i + 1) := by
    have := List.getElem?_eq_some_iff.1 hy
    obtain ⟨h1, rfl⟩ := this
    rw [← List.drop_eq_getElem_cons h1, List.take_append_drop]
  rw [e1, e2, ← hp, lx_append_same, lx_cons]
  exact .inl h
theorem lessL_left {us vs : List Int} (h0 : us ≠ []) (h : lx vs us = false) : lessL us vs = us := by unfold lessL; rw [if_neg h0, h]; rfl
theorem lessL_right {us vs : List Int} (h : lx vs us = true) : lessL us vs = vs := by
  unfold lessL
  by_cases h0 : us = []
  · rw [if_pos h0]
  · rw [if_neg h0, if_pos h]
theorem ne_nil_of_len {l : List Int} {n : Nat} (h : l.length = n) (h0 : 0 < n) : l ≠ [] := by rintro rfl; simp at h; omega
theorem bit_one {v : Nat} (hv : v < 256) (a : Nat) : (bits BinOp.and IntKind.i64 ((v : Int) / 2 ^ a) 1 == 1) = v.testBit a := by
  rw [and_bit2 (m := (v : Int)) (by omega) (by omega) a, Bool.eq_iff_iff, beq_iff_eq, bitAt_iff]

end Go.Proofs.YtbaljgdepicigaaDoor
