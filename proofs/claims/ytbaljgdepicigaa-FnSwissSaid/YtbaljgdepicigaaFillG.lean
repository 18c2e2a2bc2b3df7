/-
  The least sum of differences of a pairing: the program's and the reference's.
-/
import Derived.Deep.RegionLaw
import Derived.Laws.ShiftsVar
import Derived.Test.YtbaljgdepicigaaBase
import Derived.Test.YtbaljgdepicigaaMathA
import Derived.Test.YtbaljgdepicigaaMathD
import Derived.Test.YtbaljgdepicigaaLib
import Derived.Test.YtbaljgdepicigaaAid
import Derived.Test.YtbaljgdepicigaaStep
import Derived.Test.YtbaljgdepicigaaGrid
import Derived.Test.YtbaljgdepicigaaLibF
import Derived.Test.YtbaljgdepicigaaMathB
import Derived.Test.YtbaljgdepicigaaMathU
import Derived.Test.YtbaljgdepicigaaMathO
import Derived.Test.YtbaljgdepicigaaMathS
import Derived.Test.YtbaljgdepicigaaMathP
import Derived.Test.YtbaljgdepicigaaDblB
import Derived.Test.YtbaljgdepicigaaSwiss
import Derived.Test.YtbaljgdepicigaaSwissB
import Derived.Test.YtbaljgdepicigaaSortA
import Derived.Test.YtbaljgdepicigaaRangeA
import Derived.Test.YtbaljgdepicigaaFillA
import Derived.Test.YtbaljgdepicigaaFillB
import Derived.Test.YtbaljgdepicigaaFillC
import Derived.Test.YtbaljgdepicigaaFillD
import Derived.Test.YtbaljgdepicigaaFillE
import Derived.Test.YtbaljgdepicigaaFillF
namespace Go.Proofs.Ytbaljgdepicigaa
open Go.RowKit
set_option linter.unusedVariables false
set_option maxRecDepth 100000
attribute [local go_sem] Oper.semAt_some

-- words
theorem calls_round {P : Program} {f : FuncId} {args : Array Value} {w : World} {R : Ending → World → Prop} (l m : Nat) (h : Calls P f args w R) : CallsIn (Fence.wide.inRound l) m P f args w R := callsIn_wide.2 h
def floatV (xs p : List Int) : Int := sumTo (drop1 xs p) xs.length
def gapV (xs p : List Int) : Int := sumTo (gap1 xs p) xs.length
def leastP (xs ms : List Int) : Int := if swissOk xs ms then leastF (floatV xs) (pairingsO (upto ms.length) ms) else -1
theorem pairings_ok {xs ms o : List Int} (h : swissOk xs ms) (ho : ordOf ms.length o) : ∀ p ∈ pairingsO o ms, pairsOk ms.length p := fun p hp =>
  ((mem_fillL ho (swissOk_sym h) _ _ (partP_start _) (nfree_start _) p).1 hp).ok
theorem floatV_nonneg {xs p : List Int} (h : isSwiss xs) : 0 ≤ floatV xs p := (drop1_bound (n := 0) (k := xs.length) h.2.2).1
theorem leastP_all {xs ms : List Int} (h : swissOk xs ms) : leastP xs ms = leastF (gapV xs) (allL ms (ms.length + 1) (orderO xs ms.length) (List.replicate ms.length 0)) := by
  unfold leastP
  rw [if_pos h, allL_pairings h]
  refine leastF_perm (pairings_perm h) (fun p _ => floatV_nonneg h.1) fun p hp => ?_
  have := pairings_ok h (ordOf_upto ms.length) p hp
  rw [h.2.1] at this
  exact float_same this
-- impl.LeastFloat
set_option maxHeartbeats 1000000 in
theorem iLeast_any (A : Option Addr) (n c : Nat) (xs : List Int) (A2 : Option Addr) (n2 c2 : Nat) (ms : List Int) (w : World) (h : Ints w A n c xs) (h2 : Ints w A2 n2 c2 ms) :
    Calls Try.prog 16 #[.slice A n c, .slice A2 n2 c2] w fun e w' => e = .returned (.int .i64 (leastP xs ms)) ∧ Ext w w' := by
  have HL := hide h.len
  have HL2 := hide h2.len
  have HI := hide h
  have HI2 := hide h2
  have hle := h.le
  have hmx := h.max
  have HB0 := hide (Ext.one w (.cells #[.slice A n c] 23))
  have b0 : (w.alloc (.cells #[.slice A n c] 23)).cell? ⟨w.heap.size, 0, none⟩ = some (.slice A n c) := by simp
  clear h h2
  by_cases hs : swissOk xs ms
  · have hsn := swissOk_n hs
    have hn8 : n ≤ 8 := by have := HL.out; have := hs.1.1; omega
    have hnn : n2 = n := by have := HL.out; have := HL2.out; have := hs.2.1; omega
    subst hnn
    have HNV := hide hsn.1
    have HMB := hide hsn.2
    rw [HL2.out] at HNV
    have HF := hide (show leastP xs ms = leastF (floatV xs) (fillL (upto n2) ms (n2 + 1) (List.replicate n2 (-1))) by unfold leastP; rw [if_pos hs]; unfold pairingsO startP; rw [HL2.out])
    have HPK := hide (show ∀ p ∈ fillL (upto n2) ms (n2 + 1) (List.replicate n2 (-1)), pairsOk n2 p from by
      have := pairings_ok hs (ordOf_upto ms.length)
      unfold pairingsO startP at this
      rwa [HL2.out] at this)
    have HS := hide hs
    clear hsn hs
    refine calls_marks Try.func16 rfl ?_
    simp only [Try.ntmps16, List.size_toArray, List.length_cons, List.length_nil, Nat.reduceAdd, Nat.reduceSub, Array.replicate_succ, Array.replicate_zero, List.push_toArray, List.append_toArray, List.nil_append, List.cons_append]
    go_wp2_with (first
      | (go_at_call 18; refine (iSwissOk_any _ _ _ xs _ _ _ ms _ (HI.out.ext HB0.out) (HI2.out.ext HB0.out)).mono ?_; rw [decide_eq_true HS.out]; rintro e w1 ⟨rfl, hE1⟩; have d0 := hE1.get b0; have d1 := (Ext.one w1 (.cells #[.int .i64 (-1)] 3)).get d0)
      | (go_at_call 84; refine (indices_any n2 _ (by omega)).mono ?_; rintro e w2 ⟨B, d, rfl, hoB, hE2⟩)
      | (go_at_call 82; refine (pairings_any _ _ _ _ _ _ _).mono ?_; rintro e w3 ⟨bO, bM, rfl, hbO, hbM, hcO, hcM, hE3⟩))
    rw [upto_len] at hoB hcO
    have hz0 := HB0.out.size
    have hz1 := hE1.size
    have hz2 := hE2.size
    have hz3 := hE3.size
    simp only [World.size_alloc] at hz0 hz1 hz2
    have hbs := hoB.block
    simp only [World.size_alloc] at hbs
    have hn0 : 0 < n2 := by have := HNV.out; omega
    have HA2 := hide (show ∀ k, A2.map (·.block) = some k → k < w.heap.size from fun k hk => by
      obtain ⟨b, off, x, e, hb, _⟩ := HI2.out.get hn0
      rw [e] at hk; cases hk; exact hb)
    have HX2 := hide (show Ext w w2 from (HB0.out.trans hE1).trans ((Ext.one w1 _).trans hE2))
    have HX3 := hide (HX2.out.trans hE3)
    have hc0 : (w1.alloc (.cells #[.int .i64 (-1)] 3)).cell? ⟨w1.heap.size, 0, none⟩ = some (.int .i64 (-1)) := by simp
    have hf0 : (w1.alloc (.cells #[.int .i64 (-1)] 3)).frozen? ⟨w1.heap.size, 0, none⟩ = false := by simp
    have hcw := (hE2.trans hE3).get hc0
    have hfw := ((hE2.trans hE3).frozen (p := ⟨w1.heap.size, 0, none⟩) (by simp)).trans hf0
    have hbw := (hE2.trans hE3).get d1
    have HB3 := hide (hoB.ints.ext hE3)
    have G := pairings_gives (lo := w1.heap.size) (hi := w1.heap.size + 1) w3 HNV.out (ordOf_upto n2) HL2.out HMB.out hcO hcM HB3.out (HI2.out.ext HX3.out) (by omega) (by omega) (by omega) (fun k hk => by have := (hbs k hk).1; omega) (fun k hk => by have := HA2.out k hk; omega)
    have HG := hide G
    have HXW := hide (show w.heap.size < w1.heap.size by omega)
    clear G hoB hE1 hE2 hE3 hbs hc0 hf0 d0 d1
    refine wp_range HG.out rfl (enters_of Try.func150 (by kernel_rfl) rfl) rfl (by omega)
      (fun pre W => W.cell? ⟨w1.heap.size, 0, none⟩ = some (.int .i64 (leastF (floatV xs) pre)) ∧ W.frozen? ⟨w1.heap.size, 0, none⟩ = false ∧ W.cell? ⟨w.heap.size, 0, none⟩ = some (.slice A n2 c) ∧ Hid (Ext w W))
      (fun _ _ _ => False)
      (fun pre Wa Wb ⟨h1, h2, h4, h3⟩ hb => ⟨(hb.cell (p := ⟨w1.heap.size, 0, none⟩) (by show w1.heap.size < _; omega)).trans h1, (hb.frozen (p := ⟨w1.heap.size, 0, none⟩) (by show w1.heap.size < _; omega)).trans h2, (hb.cell (p := ⟨w.heap.size, 0, none⟩) (by show w.heap.size < _; omega)).trans h4, hide (Below.trans h3.out (hb.mono HX3.out.size))⟩)
      (fun _ _ _ _ h _ => h) ⟨hcw, hfw, hbw, hide HX3.out⟩ ?body ?done ?stop
    case body =>
      rintro l m pre x A9 c9 Wa Wb ⟨h1, h2, h4, h3⟩ hpre hx hsz
      have hpk := HPK.out x (hpre.subset (by simp))
      have HXX := hide hx
      have HPX := hide hpk
      have HSN := hide (leastF_snoc (floatV xs) pre x)
      have HFV := hide (show sumTo (drop1 xs x) n2 = floatV xs x by unfold floatV; rw [HL.out])
      clear hpre hx hpk
      have C := hide (show Calls Try.prog 85 #[.slice A n2 c, .slice A9 x.length c9] Wb fun e w' => e = .returned (.int .i64 (floatV xs x)) ∧ Ext Wb w' from by
        have := iFloat_any A n2 c xs A9 x.length c9 x Wb (HI.out.ext h3.out) HXX.out HS.out.1 HPX.out
        rwa [HFV.out] at this)
      clear HFV
      generalize hbv : leastF (floatV xs) pre = bv at *
      generalize hfv : floatV xs x = fv at *
      have key : ∀ (Wc : World), Ext Wb Wc → (Wc.cell? ⟨w1.heap.size, 0, none⟩ = some (.int .i64 bv) ∧ Wc.frozen? ⟨w1.heap.size, 0, none⟩ = false ∧ Wc.cell? ⟨w.heap.size, 0, none⟩ = some (.slice A n2 c)) := fun Wc hE =>
        ⟨hE.get h1, (hE.frozen (p := ⟨w1.heap.size, 0, none⟩) (by show w1.heap.size < _; omega)).trans h2, hE.get h4⟩
      have HKEY := hide key
      clear hbv hfv key
      gi_wp2
      refine ⟨trivial, ?_⟩
      have hdep : Fence.wide.depth.isSome = true → 1 ≤ m := fun h => nomatch h
      by_cases hb0 : bv < 0
      · have HN := hide (show leastF (floatV xs) (pre ++ [x]) = fv by rw [HSN.out, if_pos (.inl hb0)])
        gi_wp2_with (first | fail | (refine ⟨trivial, hdep, ?_⟩; gi_at_call 85; refine (calls_round l _ C.out).mono ?_; rintro e Wc ⟨rfl, hEc⟩; obtain ⟨g1, g2, g4⟩ := HKEY.out Wc hEc))
        exact ⟨(Only.of_ext hEc).trans (only_store _ _ (Nat.le_refl _) (Nat.lt_succ_self _)), by rw [HN.out]; exact World.cell?_setCell_same' _ _ _ (by rw [g1]; rfl), by rw [World.frozen?_setCell]; exact g2, (grown_setCell Wc ⟨w1.heap.size, 0, none⟩ _).cell g4 (by have := HXW.out; simp; omega), hide ((h3.out.trans hEc).setCell (p := ⟨w1.heap.size, 0, none⟩) (by have := HXW.out; show w.heap.size ≤ w1.heap.size; omega) _)⟩
      · by_cases hb1 : fv < bv
        · have HN := hide (show leastF (floatV xs) (pre ++ [x]) = fv by rw [HSN.out, if_pos (.inr hb1)])
          gi_wp2_with (first | fail | (refine ⟨trivial, hdep, ?_⟩; gi_at_call 85; refine (calls_round l _ C.out).mono ?_; rintro e Wc ⟨rfl, hEc⟩; obtain ⟨g1, g2, g4⟩ := HKEY.out Wc hEc))
          exact ⟨(Only.of_ext hEc).trans (only_store _ _ (Nat.le_refl _) (Nat.lt_succ_self _)), by rw [HN.out]; exact World.cell?_setCell_same' _ _ _ (by rw [g1]; rfl), by rw [World.frozen?_setCell]; exact g2, (grown_setCell Wc ⟨w1.heap.size, 0, none⟩ _).cell g4 (by have := HXW.out; simp; omega), hide ((h3.out.trans hEc).setCell (p := ⟨w1.heap.size, 0, none⟩) (by have := HXW.out; show w.heap.size ≤ w1.heap.size; omega) _)⟩
        · have HN := hide (show leastF (floatV xs) (pre ++ [x]) = bv by rw [HSN.out, if_neg (by omega)])
          gi_wp2_with (first | fail | (refine ⟨trivial, hdep, ?_⟩; gi_at_call 85; refine (calls_round l _ C.out).mono ?_; rintro e Wc ⟨rfl, hEc⟩; obtain ⟨g1, g2, g4⟩ := HKEY.out Wc hEc))
          exact ⟨Only.of_ext hEc, by rw [HN.out]; exact g1, g2, g4, hide (h3.out.trans hEc)⟩
    case done =>
      rintro D W ⟨h1, h2, h4, h3⟩ hD hd
      have HD := hide hd
      clear hd
      go_wp2
      refine ⟨by simp, .inl ⟨_, _, rfl, run_takeDeferred HD.out, ?_⟩⟩
      refine ⟨_, results_tmp rfl _ _ _, ?_, ?_⟩
      · exact ret_int HF.out.symm
      exact Below.trans h3.out (below_putObj _ _ (Nat.le_trans HX3.out.size hD))
    case stop => exact fun _ _ _ _ _ _ h => h.elim
  · have HF := hide (show leastP xs ms = -1 from if_neg hs)
    have HS := hide hs
    clear hs
    go_enter Try.func16, Try.ntmps16
    go_wp2_with (go_at_call 18; refine (iSwissOk_any _ _ _ xs _ _ _ ms _ (HI.out.ext HB0.out) (HI2.out.ext HB0.out)).mono ?_; rw [decide_eq_false HS.out]; rintro e w1 ⟨rfl, hE1⟩)
    go_ret
    exact ⟨ret_int HF.out.symm, HB0.out.trans hE1⟩
-- spec.LeastFloat walk
set_option maxHeartbeats 1000000 in
theorem sLeast_any (A : Option Addr) (n c : Nat) (xs : List Int) (A2 : Option Addr) (n2 c2 : Nat) (ms : List Int) (w : World) (h : Ints w A n c xs) (h2 : Ints w A2 n2 c2 ms) :
    Calls Try.prog 41 #[.slice A n c, .slice A2 n2 c2] w fun e w' => e = .returned (.int .i64 (leastP xs ms)) ∧ Ext w w' := by
  have HL := hide h.len
  have HL2 := hide h2.len
  have HI := hide h
  have HI2 := hide h2
  have hle := h.le
  have hmx := h.max
  clear h h2
  by_cases hs : swissOk xs ms
  · have hsn := swissOk_n hs
    have hn8 : n ≤ 8 := by have := HL.out; have := hs.1.1; omega
    have hnn : n2 = n := by have := HL.out; have := HL2.out; have := hs.2.1; omega
    subst hnn
    have HNV := hide hsn.1
    have HMB := hide hsn.2
    rw [HL2.out] at HNV
    have hn0 : 0 < n2 := by have := HNV.out; omega
    have HF := hide (leastP_all hs)
    rw [HL2.out] at HF
    have HOR := hide (ordOf_orderO xs n2)
    have HS := hide hs
    have hmk := run_make_ints n2 (by omega)
    have HLN := hide (allL_len ms (n2 + 1) (orderO xs n2) (List.replicate n2 0) (by rw [orderO_len]; exact hn8))
    have h8 : 8 ^ (n2 + 1) ≤ 134217728 := Nat.le_trans (Nat.pow_le_pow_right (by omega) (show n2 + 1 ≤ 9 by omega)) (by decide)
    have HPK := hide (show ∀ p ∈ allL ms (n2 + 1) (orderO xs n2) (List.replicate n2 0), pairsOk n2 p from by
      have h1 := pairings_ok hs (ordOf_orderO xs ms.length)
      rw [← allL_pairings hs, HL2.out] at h1
      exact h1)
    clear hsn hs
    go_enter Try.func41, Try.ntmps41
    go_wp2_with (first
      | (go_at_call 97; refine (sSwissOk_any _ _ _ xs _ _ _ ms _ HI.out HI2.out).mono ?_; rw [decide_eq_true HS.out]; rintro e w1 ⟨rfl, hE1⟩; have HE1 := hide hE1; clear hE1))
    have HA2 := hide (show ∀ k, A2.map (·.block) = some k → k < w.heap.size from fun k hk => by
      obtain ⟨b, off, x, e, hb, _⟩ := HI2.out.get hn0
      rw [e] at hk; cases hk; exact hb)
    have TOP := hide (fun (W : World) (Z X : Nat) (B2 : Option Addr) (d2 : Nat) (hE : Ext w W) (hL : Ints W B2 n2 d2 (orderO xs n2)) (hZ : W.heap[Z]? = some (.cells (zeroRow n2) 3 (0, 0))) (hX : W.heap[X]? = some (.cells #[] 23 (0, 0))) (hlo : w.heap.size ≤ X) (hdl : B2.map (·.block) ≠ some X) =>
      l24All_top W hn8 hn0 HMB.out (fun x hx => HOR.out.2.2.1 x hx) HOR.out.1 (HI2.out.ext hE) hL hZ hX hlo (fun e => by have := HA2.out X e; omega) hdl)
    go_region_law (first
      | (go_simp; go_at_call 99; (with_reducible refine (l09_any _ _ _ xs _ (HI.out.ext (HE1.out.drew)) hn8).mono ?_); rintro e w2 ⟨B2, d2, rfl, ho2, hE2⟩; rw [orderO_len] at ho2 ⊢; have HO2 := hide ho2; have hbl := ho2.block; have HE2 := hide ((HE1.out.drew).trans hE2); have hz2 := hE2.size; have hz1 := HE1.out.size; simp only [World.drew] at hbl hz2; clear ho2 hE2)
      | (go_simp; go_at_call 99; (with_reducible refine (l09_any _ _ _ xs _ (HI.out.ext ((HE1.out.alloc (.cells (zeroRow n2) 3)).drew)) hn8).mono ?_); rintro e w2 ⟨B2, d2, rfl, ho2, hE2⟩; rw [orderO_len] at ho2 ⊢; have HO2 := hide ho2; have hbl := ho2.block; have HE2 := hide (((HE1.out.alloc (.cells (zeroRow n2) 3)).drew).trans hE2); have hz2 := hE2.size; have hz1 := HE1.out.size; simp only [World.size_alloc, World.drew] at hbl hz2; have HZ2 := hide (show w2.heap[w1.heap.size]? = some (.cells (zeroRow n2) 3 (0, 0)) from (hE2.block (k := w1.heap.size) (by simp)).trans (heap_alloc_new w1 (.cells (zeroRow n2) 3))); clear ho2 hE2)
      | (go_simp; go_at_call 99; (with_reducible refine (l09_any _ _ _ xs _ (HI.out.ext ((HE1.out.alloc (.cells #[] 23)).drew)) hn8).mono ?_); rintro e w2 ⟨B2, d2, rfl, ho2, hE2⟩; rw [orderO_len] at ho2 ⊢; have HO2 := hide ho2; have hbl := ho2.block; have HE2 := hide (((HE1.out.alloc (.cells #[] 23)).drew).trans hE2); have hz2 := hE2.size; have hz1 := HE1.out.size; simp only [World.size_alloc, World.drew] at hbl hz2; have HX2 := hide (show w2.heap[w1.heap.size]? = some (.cells #[] 23 (0, 0)) from (hE2.block (k := w1.heap.size) (by simp)).trans (heap_alloc_new w1 (.cells #[] 23))); clear ho2 hE2)
      | (go_simp; go_at_call 99; (with_reducible refine (l09_any _ _ _ xs _ (HI.out.ext (((HE1.out.alloc (.cells (zeroRow n2) 3)).alloc (.cells #[] 23)).drew)) hn8).mono ?_); rintro e w2 ⟨B2, d2, rfl, ho2, hE2⟩; rw [orderO_len] at ho2 ⊢; have HO2 := hide ho2; have hbl := ho2.block; have HE2 := hide ((((HE1.out.alloc (.cells (zeroRow n2) 3)).alloc (.cells #[] 23)).drew).trans hE2); have hz2 := hE2.size; have hz1 := HE1.out.size; simp only [World.size_alloc, World.drew] at hbl hz2; have HZ2 := hide (show w2.heap[w1.heap.size]? = some (.cells (zeroRow n2) 3 (0, 0)) from (hE2.block (k := w1.heap.size) (by simp; omega)).trans (((Ext.one (w1.alloc (.cells (zeroRow n2) 3)) _).block (by simp)).trans (heap_alloc_new w1 (.cells (zeroRow n2) 3)))); have HX2 := hide (show w2.heap[w1.heap.size + 1]? = some (.cells #[] 23 (0, 0)) from (hE2.block (k := w1.heap.size + 1) (by simp)).trans (by have := heap_alloc_new (w1.alloc (.cells (zeroRow n2) 3)) (.cells #[] 23); rw [World.size_alloc] at this; exact this)); clear ho2 hE2)
      | (go_simp; go_at_call 99; (with_reducible refine (l09_any _ _ _ xs _ (HI.out.ext (((HE1.out.alloc (.cells #[] 23)).alloc (.cells (zeroRow n2) 3)).drew)) hn8).mono ?_); rintro e w2 ⟨B2, d2, rfl, ho2, hE2⟩; rw [orderO_len] at ho2 ⊢; have HO2 := hide ho2; have hbl := ho2.block; have HE2 := hide ((((HE1.out.alloc (.cells #[] 23)).alloc (.cells (zeroRow n2) 3)).drew).trans hE2); have hz2 := hE2.size; have hz1 := HE1.out.size; simp only [World.size_alloc, World.drew] at hbl hz2; have HZ2 := hide (show w2.heap[w1.heap.size + 1]? = some (.cells (zeroRow n2) 3 (0, 0)) from (hE2.block (k := w1.heap.size + 1) (by simp)).trans (by have := heap_alloc_new (w1.alloc (.cells #[] 23)) (.cells (zeroRow n2) 3); rw [World.size_alloc] at this; exact this)); have HX2 := hide (show w2.heap[w1.heap.size]? = some (.cells #[] 23 (0, 0)) from (hE2.block (k := w1.heap.size) (by simp; omega)).trans (((Ext.one (w1.alloc (.cells #[] 23)) _).block (by simp)).trans (heap_alloc_new w1 (.cells #[] 23)))); clear ho2 hE2)
      | (go_simp; go_at_call 98; (with_reducible refine (TOP.out _ w2.heap.size (w2.heap.size + 1) B2 d2 ((HE2.out.alloc (.cells (zeroRow n2) 3)).alloc (.cells #[] 23)) (HO2.out.ints.ext ((Ext.one w2 (.cells (zeroRow n2) 3)).alloc (.cells #[] 23))) (((Ext.one (w2.alloc (.cells (zeroRow n2) 3)) (.cells #[] 23)).block (by simp)).trans (heap_alloc_new w2 (.cells (zeroRow n2) 3))) (by have := heap_alloc_new (w2.alloc (.cells (zeroRow n2) 3)) (.cells #[] 23); rw [World.size_alloc] at this; exact this) (by omega) (fun e => by have := hbl _ e; omega)).mono ?_); rintro e w3 ⟨A3, c3, rfl, ho3, hg3⟩; have HG3 := hide ho3; have HE3 := hide (Ext.grown (((HE2.out.alloc (.cells (zeroRow n2) 3)).alloc (.cells #[] 23))) hg3 (fun k hk => by cases hk; omega)); clear ho3 hg3)
      | (go_simp; go_at_call 98; (with_reducible refine (TOP.out _ (w2.heap.size + 1) w2.heap.size B2 d2 ((HE2.out.alloc (.cells #[] 23)).alloc (.cells (zeroRow n2) 3)) (HO2.out.ints.ext ((Ext.one w2 (.cells #[] 23)).alloc (.cells (zeroRow n2) 3))) (by have := heap_alloc_new (w2.alloc (.cells #[] 23)) (.cells (zeroRow n2) 3); rw [World.size_alloc] at this; exact this) (((Ext.one (w2.alloc (.cells #[] 23)) (.cells (zeroRow n2) 3)).block (by simp)).trans (heap_alloc_new w2 (.cells #[] 23))) (by omega) (fun e => by have := hbl _ e; omega)).mono ?_); rintro e w3 ⟨A3, c3, rfl, ho3, hg3⟩; have HG3 := hide ho3; have HE3 := hide (Ext.grown (((HE2.out.alloc (.cells #[] 23)).alloc (.cells (zeroRow n2) 3))) hg3 (fun k hk => by cases hk; omega)); clear ho3 hg3)
      | (go_simp; go_at_call 98; (with_reducible refine (TOP.out _ w1.heap.size w2.heap.size B2 d2 (HE2.out.alloc (.cells #[] 23)) (HO2.out.ints.ext (Ext.one w2 (.cells #[] 23))) (((Ext.one w2 (.cells #[] 23)).block (by omega)).trans HZ2.out) (heap_alloc_new w2 (.cells #[] 23)) (by omega) (fun e => by have := hbl _ e; omega)).mono ?_); rintro e w3 ⟨A3, c3, rfl, ho3, hg3⟩; have HG3 := hide ho3; have HE3 := hide (Ext.grown ((HE2.out.alloc (.cells #[] 23))) hg3 (fun k hk => by cases hk; omega)); clear ho3 hg3)
      | (go_simp; go_at_call 98; (with_reducible refine (TOP.out _ w2.heap.size w1.heap.size B2 d2 (HE2.out.alloc (.cells (zeroRow n2) 3)) (HO2.out.ints.ext (Ext.one w2 (.cells (zeroRow n2) 3))) (heap_alloc_new w2 (.cells (zeroRow n2) 3)) (((Ext.one w2 (.cells (zeroRow n2) 3)).block (by omega)).trans HX2.out) (by omega) (fun e => by have := hbl _ e; omega)).mono ?_); rintro e w3 ⟨A3, c3, rfl, ho3, hg3⟩; have HG3 := hide ho3; have HE3 := hide (Ext.grown ((HE2.out.alloc (.cells (zeroRow n2) 3))) hg3 (fun k hk => by cases hk; omega)); clear ho3 hg3)
      | (go_simp; go_at_call 98; (with_reducible refine (TOP.out _ w1.heap.size (w1.heap.size + 1) B2 d2 HE2.out HO2.out.ints HZ2.out HX2.out (by omega) (fun e => by have := hbl _ e; omega)).mono ?_); rintro e w3 ⟨A3, c3, rfl, ho3, hg3⟩; have HG3 := hide ho3; have HE3 := hide (Ext.grown (HE2.out) hg3 (fun k hk => by cases hk; omega)); clear ho3 hg3)
      | (go_simp; go_at_call 98; (with_reducible refine (TOP.out _ (w1.heap.size + 1) w1.heap.size B2 d2 HE2.out HO2.out.ints HZ2.out HX2.out (by omega) (fun e => by have := hbl _ e; omega)).mono ?_); rintro e w3 ⟨A3, c3, rfl, ho3, hg3⟩; have HG3 := hide ho3; have HE3 := hide (Ext.grown (HE2.out) hg3 (fun k hk => by cases hk; omega)); clear ho3 hg3))
    all_goals (
      have hlen : (allL ms (n2 + 1) (orderO xs n2) (List.replicate n2 0)).length ≤ 134217728 := Nat.le_trans HLN.out h8
      clear TOP HLN h8
      go_simp
      go_wp2
      generalize allL ms (n2 + 1) (orderO xs n2) (List.replicate n2 0) = Lst at *
      obtain ⟨N, hN⟩ : ∃ N, Lst.length = N := ⟨_, rfl⟩
      have HN := hide hN
      rw [hN] at HG3 hlen ⊢
      clear hN
      go_loopw [5, 22] (fun b i wr => ∃ k : Nat, k ≤ N ∧ i = .int .i64 (k : Int) ∧ b = .int .i64 (leastF (gapV xs) (Lst.take k)) ∧ Ext w3 wr) (fun _ i _ => N - (intOf i).toNat)
      case atStart => exact ⟨0, Nat.zero_le _, rfl, by simp [leastF], Ext.refl _⟩
      case round =>
        obtain ⟨k, hk, rfl, rfl, hE⟩ := hrel
        have HER := hide hE
        clear hE
        by_cases hlt : k < N
        · obtain ⟨bl, ol, BL, dl, rl, rfl, hbl, hrl, hcl, hil⟩ := (HG3.out.grid.ext HER.out).get hlt
          have HRL := hide hil
          have hpk := HPK.out rl (List.mem_of_getElem? hrl)
          have HSN := hide (show leastF (gapV xs) (Lst.take (k + 1)) = if leastF (gapV xs) (Lst.take k) < 0 ∨ gapV xs rl < leastF (gapV xs) (Lst.take k) then gapV xs rl else leastF (gapV xs) (Lst.take k) by rw [take_snoc_of hrl]; exact leastF_snoc _ _ _)
          have C := hide (show Calls Try.prog 107 #[.slice A n2 c, .slice BL rl.length dl] wr fun e w' => e = .returned (.int .i64 (gapV xs rl)) ∧ Ext wr w' from by
            have := sFloat_any A n2 c xs BL rl.length dl rl wr (HI.out.ext (HE3.out.trans HER.out)) hil HS.out.1 hpk
            unfold gapV
            rwa [HL.out])
          have hki : (k : Int) < (N : Int) := by omega
          clear hrl hbl hil hpk
          generalize leastF (gapV xs) (Lst.take k) = bv at *
          generalize gapV xs rl = fv at *
          by_cases hb0 : bv < 0
          · have HNX := hide (show leastF (gapV xs) (Lst.take (k + 1)) = fv by rw [HSN.out, if_pos (.inl hb0)])
            go_wp2_with (go_at_call 107; refine C.out.mono ?_; rintro e w5 ⟨rfl, hE5⟩)
            go_roundw
            case rel => exact ⟨k + 1, by omega, by go_num, by rw [HNX.out], HER.out.trans hE5⟩
            case measure => (simp [intOf] <;> omega)
          · by_cases hb1 : fv < bv
            · have HNX := hide (show leastF (gapV xs) (Lst.take (k + 1)) = fv by rw [HSN.out, if_pos (.inr hb1)])
              go_wp2_with (go_at_call 107; refine C.out.mono ?_; rintro e w5 ⟨rfl, hE5⟩)
              go_roundw
              case rel => exact ⟨k + 1, by omega, by go_num, by rw [HNX.out], HER.out.trans hE5⟩
              case measure => (simp [intOf] <;> omega)
            · have HNX := hide (show leastF (gapV xs) (Lst.take (k + 1)) = bv by rw [HSN.out, if_neg (by omega)])
              go_wp2_with (go_at_call 107; refine C.out.mono ?_; rintro e w5 ⟨rfl, hE5⟩)
              go_roundw
              case rel => exact ⟨k + 1, by omega, by go_num, by rw [HNX.out], HER.out.trans hE5⟩
              case measure => (simp [intOf] <;> omega)
        · have hke : k = N := by omega
          subst hke
          have HFX := hide (show leastF (gapV xs) (Lst.take k) = leastP xs ms by rw [HF.out, take_len HN.out])
          go_wp2
          go_ret
          exact ⟨ret_int HFX.out, HE3.out.trans HER.out⟩)
  · have HF := hide (show leastP xs ms = -1 from if_neg hs)
    have HS := hide hs
    clear hs
    go_enter Try.func41, Try.ntmps41
    go_wp2_with (go_at_call 97; refine (sSwissOk_any _ _ _ xs _ _ _ ms _ HI.out HI2.out).mono ?_; rw [decide_eq_false HS.out]; rintro e w1 ⟨rfl, hE1⟩)
    go_ret
    exact ⟨ret_int HF.out.symm, hE1⟩

end Go.Proofs.Ytbaljgdepicigaa
