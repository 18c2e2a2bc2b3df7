/-
  The first pairing in order: the program's.
-/
import Derived.Deep.RegionLaw
import Derived.Laws.ShiftsVar
import Derived.Test.YtbaljgdepicigaaBase
import Derived.Test.YtbaljgdepicigaaMathA
import Derived.Test.YtbaljgdepicigaaMathD
import Derived.Test.YtbaljgdepicigaaLib
import Derived.Test.YtbaljgdepicigaaAid
import Derived.Test.YtbaljgdepicigaaStep
import Derived.Test.YtbaljgdepicigaaGrid
import Derived.Test.YtbaljgdepicigaaLibF
import Derived.Test.YtbaljgdepicigaaMathB
import Derived.Test.YtbaljgdepicigaaMathU
import Derived.Test.YtbaljgdepicigaaMathO
import Derived.Test.YtbaljgdepicigaaMathS
import Derived.Test.YtbaljgdepicigaaMathP
import Derived.Test.YtbaljgdepicigaaDblB
import Derived.Test.YtbaljgdepicigaaSwiss
import Derived.Test.YtbaljgdepicigaaSwissB
import Derived.Test.YtbaljgdepicigaaSortA
import Derived.Test.YtbaljgdepicigaaRangeA
import Derived.Test.YtbaljgdepicigaaFillA
import Derived.Test.YtbaljgdepicigaaFillB
import Derived.Test.YtbaljgdepicigaaFillC
import Derived.Test.YtbaljgdepicigaaFillD
import Derived.Test.YtbaljgdepicigaaFillE
import Derived.Test.YtbaljgdepicigaaFillF
import Derived.Test.YtbaljgdepicigaaFillG
namespace Go.Proofs.Ytbaljgdepicigaa
open Go.RowKit
set_option linter.unusedVariables false
set_option maxRecDepth 100000
attribute [local go_sem] Oper.semAt_some

-- words
/-- The first pairing of an order. -/
def pairO (xs ms : List Int) : Option (List Int) := if swissOk xs ms then (pairingsO (orderO xs ms.length) ms).head? else none
def pairV (xs ms : List Int) : List Int := (pairO xs ms).getD []
def pairB (xs ms : List Int) : Bool := (pairO xs ms).isSome
theorem pairV_len (xs ms : List Int) : (pairV xs ms).length ≤ 8 := by
  unfold pairV pairO
  split
  · rename_i h
    cases e : (pairingsO (orderO xs ms.length) ms).head? with
    | none => simp
    | some p =>
      have hm := List.mem_of_mem_head? (by rw [e]; rfl : p ∈ (pairingsO (orderO xs ms.length) ms).head?)
      have := (pairings_ok h (ordOf_orderO _ _) p hm).1
      have := swissOk_n h
      simp
      omega
  · simp
theorem OwI.only {w w' : World} {lo hi S : Nat} {A : Option Addr} {n c : Nat} {xs : List Int} (h : OwI w S A n c xs) (ho : Only lo hi w w') (hs : hi ≤ S) : OwI w' S A n c xs :=
  ⟨h.ow.keep fun k hk => ho.block k (h.block k hk).2 (by have := (h.block k hk).1; omega), h.wf⟩
theorem results_cells2 {fn : Func} {p q : Tmp} (h : fn.results = #[.cell p 23, .cell q 4]) (tmps : Array Value) (w : World) {b1 b2 : Nat} {v1 v2 : Value}
    (hp : tmps.getD p undef = .pointer (some ⟨b1, 0, none⟩)) (hq : tmps.getD q undef = .pointer (some ⟨b2, 0, none⟩)) (h1 : w.cell? ⟨b1, 0, none⟩ = some v1) (h2 : w.cell? ⟨b2, 0, none⟩ = some v2) :
    (results fn tmps).run Try.prog w = .ok (.tuple #[v1, v2]) w := by
  have hp' : tmps[p]?.getD undef = .pointer (some ⟨b1, 0, none⟩) := by simpa using hp
  have hq' : tmps[q]?.getD undef = .pointer (some ⟨b2, 0, none⟩) := by simpa using hq
  simp [results, h, hp', hq', asAddr, loadVar, isAgg, run_underlying Try.underlying23, run_underlying Try.underlying4, run_load, h1, h2]
-- impl.PairSwiss
set_option maxHeartbeats 1000000 in
theorem iPair_any (A : Option Addr) (n c : Nat) (xs : List Int) (A2 : Option Addr) (n2 c2 : Nat) (ms : List Int) (w : World) (h : Ints w A n c xs) (h2 : Ints w A2 n2 c2 ms) :
    Calls Try.prog 14 #[.slice A n c, .slice A2 n2 c2] w (RetIB w (pairV xs ms) (pairB xs ms)) := by
  have HL := hide h.len
  have HL2 := hide h2.len
  have HI := hide h
  have HI2 := hide h2
  have hle := h.le
  have hmx := h.max
  have HB0 := hide ((Ext.one w (.cells #[.slice none 0 0] 23)).alloc (.cells #[.bool false] 4))
  have b0 : ((w.alloc (.cells #[.slice none 0 0] 23)).alloc (.cells #[.bool false] 4)).cell? ⟨w.heap.size, 0, none⟩ = some (.slice none 0 0) := by simp
  have b1 : ((w.alloc (.cells #[.slice none 0 0] 23)).alloc (.cells #[.bool false] 4)).cell? ⟨w.heap.size + 1, 0, none⟩ = some (.bool false) := by simp
  have f0 : ((w.alloc (.cells #[.slice none 0 0] 23)).alloc (.cells #[.bool false] 4)).frozen? ⟨w.heap.size, 0, none⟩ = false := by simp
  have f1 : ((w.alloc (.cells #[.slice none 0 0] 23)).alloc (.cells #[.bool false] 4)).frozen? ⟨w.heap.size + 1, 0, none⟩ = false := by simp
  have FZ : ∀ w1, Ext ((w.alloc (.cells #[.slice none 0 0] 23)).alloc (.cells #[.bool false] 4)) w1 → w1.frozen? ⟨w.heap.size, 0, none⟩ = false ∧ w1.frozen? ⟨w.heap.size + 1, 0, none⟩ = false := fun w1 hE =>
    ⟨(hE.frozen (p := ⟨w.heap.size, 0, none⟩) (by simp; omega)).trans f0, (hE.frozen (p := ⟨w.heap.size + 1, 0, none⟩) (by simp)).trans f1⟩
  have HFZ := hide FZ
  clear h h2 f0 f1 FZ
  by_cases hs : swissOk xs ms
  · have hsn := swissOk_n hs
    have hn8 : n ≤ 8 := by have := HL.out; have := hs.1.1; omega
    have hnn : n2 = n := by have := HL.out; have := HL2.out; have := hs.2.1; omega
    subst hnn
    have HNV := hide hsn.1
    have HMB := hide hsn.2
    rw [HL2.out] at HNV
    have HF := hide (show pairO xs ms = (fillL (orderO xs n2) ms (n2 + 1) (List.replicate n2 (-1))).head? by unfold pairO; rw [if_pos hs]; unfold pairingsO startP; rw [HL2.out])
    have HPK := hide (show ∀ p ∈ fillL (orderO xs n2) ms (n2 + 1) (List.replicate n2 (-1)), pairsOk n2 p from by
      have := pairings_ok hs (ordOf_orderO xs ms.length)
      unfold pairingsO startP at this
      rwa [HL2.out] at this)
    have HSO := hide (show swissOrder xs = orderO xs n2 by unfold swissOrder; rw [if_pos hs.1, HL.out])
    have HS := hide hs
    clear hsn hs
    refine calls_marks Try.func14 rfl ?_
    simp only [Try.ntmps14, List.size_toArray, List.length_cons, List.length_nil, Nat.reduceAdd, Nat.reduceSub, Array.replicate_succ, Array.replicate_zero, List.push_toArray, List.append_toArray, List.nil_append, List.cons_append]
    go_wp2_with (first
      | (go_at_call 18; refine (iSwissOk_any _ _ _ xs _ _ _ ms _ (HI.out.ext HB0.out) (HI2.out.ext HB0.out)).mono ?_; rw [decide_eq_true HS.out]; rintro e w1 ⟨rfl, hE1⟩)
      | (go_at_call 17; refine (iSwissOrder_any _ _ _ xs _ (HI.out.ext (HB0.out.trans hE1))).mono ?_; rw [HSO.out]; rintro e w2 ⟨B, d, rfl, hoB, hE2⟩)
      | (go_at_call 82; refine (pairings_any _ _ _ _ _ _ _).mono ?_; rintro e w3 ⟨bO, bM, rfl, hbO, hbM, hcO, hcM, hE3⟩))
    rw [orderO_len] at hoB hcO
    have hz0 := HB0.out.size
    have hz1 := hE1.size
    have hz2 := hE2.size
    have hz3 := hE3.size
    simp only [World.size_alloc] at hz0 hz1
    have hbs := hoB.block
    have hn0 : 0 < n2 := by have := HNV.out; omega
    have HA2 := hide (show ∀ k, A2.map (·.block) = some k → k < w.heap.size from fun k hk => by
      obtain ⟨b, off, x, e, hb, _⟩ := HI2.out.get hn0
      rw [e] at hk; cases hk; exact hb)
    have HXB := hide (hE1.trans (hE2.trans hE3))
    have HX3 := hide (HB0.out.trans HXB.out)
    have hcw := HXB.out.get b0
    have hcw2 := HXB.out.get b1
    have hfw := HFZ.out _ HXB.out
    have HB3 := hide (hoB.ints.ext hE3)
    have G := pairings_gives (lo := w.heap.size) (hi := w.heap.size + 2) w3 HNV.out (ordOf_orderO xs n2) HL2.out HMB.out hcO hcM HB3.out (HI2.out.ext HX3.out) (by omega) (by omega) (by omega) (fun k hk => by have := (hbs k hk).1; omega) (fun k hk => by have := HA2.out k hk; omega)
    have HG := hide G
    have hz3' : w.heap.size + 2 ≤ w3.heap.size := by omega
    clear G hoB hE1 hE2 hE3 hbs
    refine wp_range HG.out rfl (enters_of Try.func150 (by kernel_rfl) rfl) rfl (by omega)
      (fun pre W => pre = [] ∧ W.cell? ⟨w.heap.size, 0, none⟩ = some (.slice none 0 0) ∧ W.cell? ⟨w.heap.size + 1, 0, none⟩ = some (.bool false) ∧ W.frozen? ⟨w.heap.size, 0, none⟩ = false ∧ W.frozen? ⟨w.heap.size + 1, 0, none⟩ = false ∧ Hid (Ext w W))
      (fun S pre W => ∃ p C d, pre = [p] ∧ w.heap.size ≤ S ∧ W.cell? ⟨w.heap.size, 0, none⟩ = some (.slice C p.length d) ∧ W.cell? ⟨w.heap.size + 1, 0, none⟩ = some (.bool true) ∧ OwI W S C p.length d p ∧ Ext w W)
      (fun pre Wa Wb ⟨h1, h2, h3, h4, h5, h6⟩ hb => ⟨h1, (hb.cell (p := ⟨w.heap.size, 0, none⟩) (by show w.heap.size < _; omega)).trans h2, (hb.cell (p := ⟨w.heap.size + 1, 0, none⟩) (by show w.heap.size + 1 < _; omega)).trans h3, (hb.frozen (p := ⟨w.heap.size, 0, none⟩) (by show w.heap.size < _; omega)).trans h4, (hb.frozen (p := ⟨w.heap.size + 1, 0, none⟩) (by show w.heap.size + 1 < _; omega)).trans h5, hide (Below.trans h6.out (hb.mono HX3.out.size))⟩)
      (fun S pre Wa Wb ⟨p, C, d, h1, h2, h3, h4, h5, h6⟩ ho => ⟨p, C, d, h1, h2, (World.cell?_of_block (w := Wa) (a := ⟨w.heap.size, 0, none⟩) (ho.block w.heap.size (World.block_lt_of_cell? _ _ h3) (by omega))).trans h3, (World.cell?_of_block (w := Wa) (a := ⟨w.heap.size + 1, 0, none⟩) (ho.block (w.heap.size + 1) (World.block_lt_of_cell? _ _ h4) (by omega))).trans h4, h5.only ho (Nat.le_refl _), h6.only ho (by omega)⟩)
      ⟨rfl, hcw, hcw2, hfw.1, hfw.2, hide HX3.out⟩ ?body ?done ?stop
    case body =>
      rintro l m pre x A9 c9 Wa Wb ⟨rfl, h1, h2, h3, h4, h5⟩ hpre hx hsz
      have hpk := HPK.out x (hpre.subset (by simp))
      have hxl : x.length ≤ 1073741824 := by have := hpk.1; omega
      have HXX := hide hx
      have hdep : Fence.wide.depth.isSome = true → 1 ≤ m := fun h => nomatch h
      clear hpre hx hpk
      gi_wp2
      refine ⟨trivial, ?_⟩
      gi_wp2_with (first | fail | (refine ⟨trivial, hdep, ?_⟩; gi_at_call 83; refine (calls_round l _ (Clone_any _ _ _ x _ HXX.out hxl)).mono ?_; rintro e Wc ⟨C, dC, rfl, hoC, hEc⟩; have g1 := hEc.get h1; have g2 := hEc.get h2; have g3 := (hEc.frozen (p := ⟨w.heap.size, 0, none⟩) (World.block_lt_of_cell? Wb _ h1)).trans h3; have g4 := (hEc.frozen (p := ⟨w.heap.size + 1, 0, none⟩) (World.block_lt_of_cell? Wb _ h2)).trans h4))
      have HO := hide (((Only.of_ext (l := w.heap.size) (u := w.heap.size + 2) hEc).trans (only_store Wc (q := w.heap.size) (k := 0) (.slice C x.length dC) (Nat.le_refl _) (by omega))).trans (only_store _ (q := w.heap.size + 1) (k := 0) (.bool true) (by omega) (by omega)))
      have HO2 := hide ((only_store Wc (B := w.heap.size) (S := w.heap.size + 2) (q := w.heap.size) (k := 0) (.slice C x.length dC) (Nat.le_refl _) (by omega)).trans (only_store _ (q := w.heap.size + 1) (k := 0) (.bool true) (by omega) (by omega)))
      exact ⟨HO.out, x, C, dC, rfl, h5.out.size, (grown_setCell _ _ _).cell (World.cell?_setCell_same' _ _ _ (by rw [g1]; rfl)) (by simp),
        World.cell?_setCell_same' _ _ _ (by rw [(grown_setCell Wc ⟨w.heap.size, 0, none⟩ (.slice C x.length dC)).cell g2 (by simp)]; rfl),
        hoC.only HO2.out (by omega), ((h5.out.trans hEc).setCell (p := ⟨w.heap.size, 0, none⟩) (Nat.le_refl _) _).setCell (p := ⟨w.heap.size + 1, 0, none⟩) (by simp) _⟩
    case done =>
      rintro D W ⟨h1, h2, h3, h4, h5, h6⟩ hD hd
      have HD := hide (show ((W.setCell ⟨w.heap.size, 0, none⟩ (.slice none 0 0)).setCell ⟨w.heap.size + 1, 0, none⟩ (.bool false)).heap[D]? = some (.deferred (some [])) by
        rw [Below.heap_setCell _ _ _ _ (by show D ≠ w.heap.size + 1; omega), Below.heap_setCell _ _ _ _ (by show D ≠ w.heap.size; omega)]; exact hd)
      have HN := hide h1
      have HV := hide (show pairV xs ms = [] ∧ pairB xs ms = false by unfold pairV pairB; rw [HF.out, HN.out]; exact ⟨rfl, rfl⟩)
      clear hd h1
      go_wp2
      refine ⟨by simp, .inl ⟨_, _, rfl, run_takeDeferred HD.out, ?_⟩⟩
      refine ⟨_, results_cells2 rfl _ _ rfl rfl ((World.cell?_of_block (w := (W.setCell ⟨w.heap.size, 0, none⟩ (.slice none 0 0)).setCell ⟨w.heap.size + 1, 0, none⟩ (.bool false)) (World.putObj_heap_other (by show w.heap.size ≠ D; omega))).trans ((grown_setCell _ _ _).cell (World.cell?_setCell_same' _ _ _ (by rw [h2]; rfl)) (by simp)))
        ((World.cell?_of_block (w := (W.setCell ⟨w.heap.size, 0, none⟩ (.slice none 0 0)).setCell ⟨w.heap.size + 1, 0, none⟩ (.bool false)) (World.putObj_heap_other (by show w.heap.size + 1 ≠ D; omega))).trans (World.cell?_setCell_same' _ _ _ (by rw [(grown_setCell W ⟨w.heap.size, 0, none⟩ (.slice none 0 0)).cell h3 (by simp)]; rfl))), ?_⟩
      rw [HV.out.1, HV.out.2]
      exact RetIB.mk rfl rfl (OwI.nil _ _) (Below.trans ((h6.out.setCell (p := ⟨w.heap.size, 0, none⟩) (Nat.le_refl _) _).setCell (p := ⟨w.heap.size + 1, 0, none⟩) (by simp) _) (below_putObj _ _ (by omega)))
    case stop =>
      rintro D S pre x W hpre ⟨p, C, d, h1, h2, h3, h4, h5, h6⟩ hD hd
      obtain ⟨rfl, rfl⟩ : pre = [] ∧ x = p := by
        cases pre with
        | nil => simpa using h1
        | cons y pre => simp at h1
      have HV := hide (show pairV xs ms = x ∧ pairB xs ms = true by
        obtain ⟨t, ht⟩ := hpre
        unfold pairV pairB
        rw [HF.out, ← ht]
        exact ⟨rfl, rfl⟩)
      simp only [Exit.then, Exit.inBlock]
      refine ⟨by simp, .inl ⟨_, _, rfl, run_takeDeferred hd, ?_⟩⟩
      refine ⟨_, results_cells2 rfl _ _ rfl rfl ((World.cell?_of_block (w := W) (World.putObj_heap_other (by show w.heap.size ≠ D; omega))).trans h3) ((World.cell?_of_block (w := W) (World.putObj_heap_other (by show w.heap.size + 1 ≠ D; omega))).trans h4), ?_⟩
      rw [HV.out.1, HV.out.2]
      refine RetIB.mk rfl rfl ⟨(h5.mono h2).ow.keep (fun k hk => World.putObj_heap_other (fun e => ?_)), h5.wf⟩ (Below.trans h6 (below_putObj _ _ (by omega)))
      subst e
      have hb := (h5.block k hk).2
      rcases h5.ow.own with ⟨e, _⟩ | ⟨b, off, cur, e, _, hh, _⟩
      · rw [e] at hk; cases hk
      · rw [e] at hk
        cases hk
        rw [hd] at hh
        cases hh
  · have HV := hide (show pairV xs ms = [] ∧ pairB xs ms = false by unfold pairV pairB pairO; rw [if_neg hs]; exact ⟨rfl, rfl⟩)
    have HS := hide hs
    clear hs
    go_enter Try.func14, Try.ntmps14
    go_wp2_with (go_at_call 18; refine (iSwissOk_any _ _ _ xs _ _ _ ms _ (HI.out.ext HB0.out) (HI2.out.ext HB0.out)).mono ?_; rw [decide_eq_false HS.out]; rintro e w1 ⟨rfl, hE1⟩; have d0 := hE1.get b0; have d1 := hE1.get b1; obtain ⟨g0, g1⟩ := HFZ.out _ hE1)
    refine bodyPost_ret (results_cells2 rfl _ _ rfl rfl ((grown_setCell _ _ _).cell (World.cell?_setCell_same' _ _ _ (by rw [d0]; rfl)) (by simp)) (World.cell?_setCell_same' _ _ _ (by rw [(grown_setCell w1 ⟨w.heap.size, 0, none⟩ (.slice none 0 0)).cell d1 (by simp)]; rfl))) rfl ?_
    rw [HV.out.1, HV.out.2]
    exact RetIB.mk rfl rfl (OwI.nil _ _) (((HB0.out.trans hE1).setCell (p := ⟨w.heap.size, 0, none⟩) (Nat.le_refl _) _).setCell (p := ⟨w.heap.size + 1, 0, none⟩) (by simp) _)

end Go.Proofs.Ytbaljgdepicigaa
