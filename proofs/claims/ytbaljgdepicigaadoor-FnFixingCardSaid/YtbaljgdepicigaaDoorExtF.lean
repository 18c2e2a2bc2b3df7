/-
  The first bracket that a player wins: the program's.
-/
import Derived.Laws.ShiftsVar
import Derived.Test.YtbaljgdepicigaaDoorBase
import Derived.Test.YtbaljgdepicigaaDoorMgA
import Derived.Test.YtbaljgdepicigaaDoorLib
import Derived.Test.YtbaljgdepicigaaDoorAid
import Derived.Test.YtbaljgdepicigaaDoorStep
import Derived.Test.YtbaljgdepicigaaDoorGrid
import Derived.Test.YtbaljgdepicigaaDoorLibF
import Derived.Test.YtbaljgdepicigaaDoorMgB
import Derived.Test.YtbaljgdepicigaaDoorSeed
import Derived.Test.YtbaljgdepicigaaDoorTour
import Derived.Test.YtbaljgdepicigaaDoorTourB
import Derived.Test.YtbaljgdepicigaaDoorBrack
import Derived.Test.YtbaljgdepicigaaDoorBrackB
import Derived.Test.YtbaljgdepicigaaDoorDblB
import Derived.Test.YtbaljgdepicigaaDoorPop
import Derived.Test.YtbaljgdepicigaaDoorWin
import Derived.Test.YtbaljgdepicigaaDoorWinC
import Derived.Test.YtbaljgdepicigaaDoorRangeA
import Derived.Test.YtbaljgdepicigaaDoorFillD
import Derived.Test.YtbaljgdepicigaaDoorFillE
import Derived.Test.YtbaljgdepicigaaDoorFillF
import Derived.Test.YtbaljgdepicigaaDoorFillG
import Derived.Test.YtbaljgdepicigaaDoorRangeB
import Derived.Test.YtbaljgdepicigaaDoorExtA
import Derived.Test.YtbaljgdepicigaaDoorExtB
import Derived.Test.YtbaljgdepicigaaDoorExtC
namespace Go.Proofs.YtbaljgdepicigaaDoor
open Go.RowKit
set_option linter.unusedVariables false
set_option maxRecDepth 100000
attribute [local go_sem] Oper.semAt_some

-- words
def brkCan (s : Int) (xs : List Int) (a : Int) : Prop := fixedOk s xs ∧ 0 ≤ a ∧ a ≤ s - 1
instance (s : Int) (xs : List Int) (a : Int) : Decidable (brkCan s xs a) := by unfold brkCan; infer_instance
def brkO (s : Int) (xs : List Int) (a : Int) : Option (List Int) := if brkCan s xs a then firstB xs a else none
def brkV (s : Int) (xs : List Int) (a : Int) : List Int := (brkO s xs a).getD []
def brkB (s : Int) (xs : List Int) (a : Int) : Bool := (brkO s xs a).isSome
theorem first_mem {xs : List Int} {a : Int} {p : List Int} (h : firstB xs a = some p) : p ∈ ordersL xs.length := List.mem_of_find?_eq_some h
theorem brkV_len (s : Int) (xs : List Int) (a : Int) : (brkV s xs a).length ≤ 8 := by
  unfold brkV brkO
  split
  · rename_i h
    cases e : firstB xs a with
    | none => simp
    | some p =>
      have h1 := (ordersL_mem (first_mem e)).1
      have h2 := tourOk_size h.1.1
      simp
      omega
  · simp
/-- Nobody of these is won by a. -/
def noneIn (xs : List Int) (a : Int) (l : List (List Int)) : Prop := ∀ p ∈ l, ¬ winner xs p = a
theorem noneIn_nil (xs : List Int) (a : Int) : noneIn xs a [] := fun _ h => by cases h
theorem noneIn_snoc {xs : List Int} {a : Int} {l : List (List Int)} {x : List Int} (h : noneIn xs a l) (hx : ¬ winner xs x = a) : noneIn xs a (l ++ [x]) := fun p hp => by
  rcases List.mem_append.1 hp with hp | hp
  · exact h p hp
  · obtain rfl : p = x := by simpa using hp
    exact hx
theorem first_none {xs : List Int} {a : Int} {n : Nat} (hl : xs.length = n) (h : noneIn xs a (extL (upto n) n [])) : firstB xs a = none := by
  unfold firstB
  rw [hl]
  exact List.find?_eq_none.2 fun p hp => by simpa using h p hp
theorem first_some {xs : List Int} {a : Int} {n : Nat} {l : List (List Int)} {x : List Int} (hl : xs.length = n) (h : noneIn xs a l) (hx : winner xs x = a) (hp : l ++ [x] <+: extL (upto n) n []) : firstB xs a = some x := by
  unfold firstB
  rw [hl]
  obtain ⟨t, ht⟩ := hp
  rw [← ht, List.find?_append, List.find?_append, List.find?_eq_none.2 fun p hp => by simpa using h p hp]
  simp [hx]
theorem OwI.onlyE {w w' : World} {lo hi S : Nat} {A : Option Addr} {n c : Nat} {xs : List Int} (h : OwI w S A n c xs) (ho : Only lo hi w w') (hs : hi ≤ S) : OwI w' S A n c xs :=
  ⟨h.ow.keep fun k hk => ho.block k (h.block k hk).2 (by have := (h.block k hk).1; omega), h.wf⟩
theorem results_cellsE {fn : Func} {p q : Tmp} (h : fn.results = #[.cell p 23, .cell q 4]) (tmps : Array Value) (w : World) {b1 b2 : Nat} {v1 v2 : Value}
    (hp : tmps.getD p undef = .pointer (some ⟨b1, 0, none⟩)) (hq : tmps.getD q undef = .pointer (some ⟨b2, 0, none⟩)) (h1 : w.cell? ⟨b1, 0, none⟩ = some v1) (h2 : w.cell? ⟨b2, 0, none⟩ = some v2) :
    (results fn tmps).run Tryd.prog w = .ok (.tuple #[v1, v2]) w := by
  have hp' : tmps[p]?.getD undef = .pointer (some ⟨b1, 0, none⟩) := by simpa using hp
  have hq' : tmps[q]?.getD undef = .pointer (some ⟨b2, 0, none⟩) := by simpa using hq
  simp [results, h, hp', hq', asAddr, loadVar, isAgg, run_underlying Tryd.underlying23, run_underlying Tryd.underlying4, run_load, h1, h2]
/-- What holds behind a round that returns. -/
def Won (xs : List Int) (a : Int) (w : World) (S : Nat) (pre : List (List Int)) (W : World) : Prop :=
  ∃ q p C d, pre = q ++ [p] ∧ noneIn xs a q ∧ winner xs p = a ∧ w.heap.size + 4 ≤ S ∧ W.cell? ⟨w.heap.size + 2, 0, none⟩ = some (.slice C p.length d) ∧ W.cell? ⟨w.heap.size + 3, 0, none⟩ = some (.bool true) ∧ OwI W S C p.length d p ∧ Ext w W
theorem stopped {xs : List Int} {a : Int} {w Wb Wc Wd : World} {pre : List (List Int)} {x : List Int} {C : Option Addr} {dC : Nat} (hFD : winner xs x = a) (hPRE : noneIn xs a pre ∧ w.heap.size + 4 ≤ Wb.heap.size) (h8 : Ext w Wc) (hsz : w.heap.size ≤ Wb.heap.size)
    (hEc : Ext Wb.drew Wc) (hoC : OwI Wd Wc.heap.size C x.length dC x) (hEd : Ext Wc Wd)
    (g1 : Wd.cell? ⟨w.heap.size + 2, 0, none⟩ = some (.slice none 0 0)) (g2 : Wd.cell? ⟨w.heap.size + 3, 0, none⟩ = some (.bool false)) :
    Only (w.heap.size + 2) (w.heap.size + 4) Wb ((Wd.setCell ⟨w.heap.size + 2, 0, none⟩ (.slice C x.length dC)).setCell ⟨w.heap.size + 3, 0, none⟩ (.bool true)) ∧
    Won xs a w Wb.heap.size (pre ++ [x]) ((Wd.setCell ⟨w.heap.size + 2, 0, none⟩ (.slice C x.length dC)).setCell ⟨w.heap.size + 3, 0, none⟩ (.bool true)) := by
  have hz := hEc.size
  have HO2 : Only (w.heap.size + 2) (w.heap.size + 4) Wd ((Wd.setCell ⟨w.heap.size + 2, 0, none⟩ (.slice C x.length dC)).setCell ⟨w.heap.size + 3, 0, none⟩ (.bool true)) :=
    (only_store Wd (B := w.heap.size + 2) (S := w.heap.size + 4) (q := w.heap.size + 2) (k := 0) (.slice C x.length dC) (Nat.le_refl _) (by omega)).trans (only_store _ (q := w.heap.size + 3) (k := 0) (.bool true) (by omega) (by omega))
  refine ⟨(((only_drew Wb _ _).trans (Only.of_ext hEc)).trans (Only.of_ext hEd)).trans HO2, pre, x, C, dC, rfl, hPRE.1, hFD, hPRE.2, (grown_setCell _ _ _).cell (World.cell?_setCell_same' _ _ _ (by rw [g1]; rfl)) (by simp),
    World.cell?_setCell_same' _ _ _ (by rw [(grown_setCell Wd ⟨w.heap.size + 2, 0, none⟩ (.slice C x.length dC)).cell g2 (by simp)]; rfl), ?_, ((h8.trans hEd).setCell (p := ⟨w.heap.size + 2, 0, none⟩) (by show w.heap.size ≤ w.heap.size + 2; omega) _).setCell (p := ⟨w.heap.size + 3, 0, none⟩) (by show w.heap.size ≤ w.heap.size + 3; omega) _⟩
  have hz2 : Wb.heap.size ≤ Wc.heap.size := hz
  exact (hoC.mono hz2).onlyE HO2 hPRE.2
-- impl.BracketFor
set_option maxHeartbeats 1000000 in
theorem iBracketFor_any (s : Int) (A : Option Addr) (n c : Nat) (xs : List Int) (a : Int) (w : World) (h : Ints w A n c xs) :
    Calls Tryd.prog 9 #[.agg #[.int .i64 s, .slice A n c], .int .i64 a] w (RetIB w (brkV s xs a) (brkB s xs a)) := by
  have HL := hide h.len
  have HI := hide h
  have hle := h.le
  have hmx := h.max
  clear h
  obtain ⟨W, hW⟩ : ∃ W : World, W = (((w.alloc (.cells #[.int .i64 s, .slice A n c] 26)).alloc (.cells #[.int .i64 a] 3)).alloc (.cells #[.slice none 0 0] 23)).alloc (.cells #[.bool false] 4) := ⟨_, rfl⟩
  have HE := hide (show Ext w W by rw [hW]; exact (((Ext.one _ _).alloc _).alloc _).alloc _)
  have B0 := hide (show W.cell? ⟨w.heap.size, 0, none⟩ = some (.int .i64 s) by rw [hW]; exact (((Ext.one (w.alloc (.cells #[.int .i64 s, .slice A n c] 26)) _).alloc _).alloc _).get (by simp))
  have B1 := hide (show W.cell? ⟨w.heap.size, 1, none⟩ = some (.slice A n c) by rw [hW]; exact (((Ext.one (w.alloc (.cells #[.int .i64 s, .slice A n c] 26)) _).alloc _).alloc _).get (by simp))
  have B2 := hide (show W.cell? ⟨w.heap.size + 1, 0, none⟩ = some (.int .i64 a) by rw [hW]; simp [World.cell?_alloc_past, World.cell?_alloc_at])
  have B3 := hide (show W.cell? ⟨w.heap.size + 2, 0, none⟩ = some (.slice none 0 0) by rw [hW]; simp [World.cell?_alloc_past, World.cell?_alloc_at])
  have B4 := hide (show W.cell? ⟨w.heap.size + 3, 0, none⟩ = some (.bool false) by rw [hW]; simp [World.cell?_alloc_at])
  have F3 : W.frozen? ⟨w.heap.size + 2, 0, none⟩ = false := by rw [hW]; simp [World.frozen?_alloc_past, World.frozen?_alloc_at]
  have F4 : W.frozen? ⟨w.heap.size + 3, 0, none⟩ = false := by rw [hW]; simp [World.frozen?_alloc_at]
  have hzW : W.heap.size = w.heap.size + 4 := by rw [hW]; simp
  have FZ := hide (show ∀ w1, Ext W w1 → w1.frozen? ⟨w.heap.size + 2, 0, none⟩ = false ∧ w1.frozen? ⟨w.heap.size + 3, 0, none⟩ = false from fun w1 hE =>
    ⟨(hE.frozen (p := ⟨w.heap.size + 2, 0, none⟩) (by rw [hzW]; show w.heap.size + 2 < _; omega)).trans F3, (hE.frozen (p := ⟨w.heap.size + 3, 0, none⟩) (by rw [hzW]; show w.heap.size + 3 < _; omega)).trans F4⟩)
  have HW := hide hW
  clear hW F3 F4
  by_cases hs : brkCan s xs a
  · have HF := hide (show brkO s xs a = firstB xs a from if_pos hs)
    have hn := tourOk_sz hs.1.1 HL.out
    obtain rfl : s = (n : Int) := by omega
    have hn8 : n ≤ 8 := hn.2.1
    have HFX := hide hs.1
    have HHA := hide (show decide (0 ≤ a ∧ a ≤ (n : Int) - 1) = true from decide_eq_true hs.2)
    have hs100 : 0 ≤ (n : Int) ∧ (n : Int) ≤ 100 := by omega
    have HB := hide (fun p hp => ordersL_brk (p := p) hs.1 HL.out hp)
    clear hs
    refine calls_marks Tryd.func9 rfl ?_
    simp only [Tryd.ntmps9, List.size_toArray, List.length_cons, List.length_nil, Nat.reduceAdd, Nat.reduceSub, Array.replicate_succ, Array.replicate_zero, List.push_toArray, List.append_toArray, List.nil_append, List.cons_append]
    go_wp2_with (first
      | (rw [← HW.out]; go_at_call 41; refine (isFixed_any _ _ _ _ xs _ (HI.out.ext HE.out)).mono ?_; rw [decide_eq_true HFX.out]; rintro e w1 ⟨rfl, hE1⟩; have b0 := hE1.get B0.out; have b1 := hE1.get B1.out; have b2 := hE1.get B2.out)
      | (go_at_call 47; refine (has_any _ _ _ _ _ _ hs100).mono ?_; rw [HHA.out]; rintro e w2 ⟨rfl, hE2⟩; have d0 := hE2.get b0; have d1 := hE2.get b1; have d2 := hE2.get b2)
      | (go_at_call 49; refine (indices_any n _ (by omega)).mono ?_; rintro e w4 ⟨Bo, d, rfl, hoB, hE4⟩)
      | (go_at_call 48; refine (orders_any _ _ _ _).mono ?_; rintro e w3 ⟨bL, rfl, hbL, hcL, hE3⟩)
      | fail)
    rw [upto_len] at hoB hcL
    have hz1 := hE1.size
    have hz2 := hE2.size
    have hz4 := hE4.size
    have hz3 := hE3.size
    have hbs := hoB.block
    have hn0 : 0 < n := by omega
    have hzw := HE.out.size
    have HXW := hide (hE1.trans (hE2.trans (hE4.trans hE3)))
    have HX3 := hide (HE.out.trans HXW.out)
    have hfw := FZ.out _ HXW.out
    have HB3 := hide (hoB.ints.ext hE3)
    have G := orders_gives (lo := w.heap.size + 2) (hi := w.heap.size + 4) w3 hn8 hn0 (upto_len n) (upto_nodup n) hcL HB3.out (by omega) (by omega) (fun k hk => by have := (hbs k hk).1; omega)
    have HG := hide G
    have hz34 : w.heap.size + 4 ≤ w3.heap.size := by omega
    clear G hoB hE1 hE2 hE3 hE4 hbs
    refine wp_range HG.out rfl (enters_of Tryd.func80 (by kernel_rfl) rfl) rfl (by omega)
      (fun pre W => noneIn xs a pre ∧ W.cell? ⟨w.heap.size + 2, 0, none⟩ = some (.slice none 0 0) ∧ W.cell? ⟨w.heap.size + 3, 0, none⟩ = some (.bool false) ∧ W.frozen? ⟨w.heap.size + 2, 0, none⟩ = false ∧ W.frozen? ⟨w.heap.size + 3, 0, none⟩ = false ∧ W.cell? ⟨w.heap.size, 0, none⟩ = some (.int .i64 (n : Int)) ∧ W.cell? ⟨w.heap.size, 1, none⟩ = some (.slice A n c) ∧ W.cell? ⟨w.heap.size + 1, 0, none⟩ = some (.int .i64 a) ∧ Hid (Ext w W))
      (fun S pre W => Won xs a w S pre W)
      (fun pre Wa Wb ⟨h0, h1, h2, h3, h4, h5, h6, h7, h8⟩ hb => ⟨h0, (hb.cell (p := ⟨w.heap.size + 2, 0, none⟩) (by show w.heap.size + 2 < _; omega)).trans h1, (hb.cell (p := ⟨w.heap.size + 3, 0, none⟩) (by show w.heap.size + 3 < _; omega)).trans h2, (hb.frozen (p := ⟨w.heap.size + 2, 0, none⟩) (by show w.heap.size + 2 < _; omega)).trans h3, (hb.frozen (p := ⟨w.heap.size + 3, 0, none⟩) (by show w.heap.size + 3 < _; omega)).trans h4, (hb.cell (p := ⟨w.heap.size, 0, none⟩) (by show w.heap.size < _; omega)).trans h5, (hb.cell (p := ⟨w.heap.size, 1, none⟩) (by show w.heap.size < _; omega)).trans h6, (hb.cell (p := ⟨w.heap.size + 1, 0, none⟩) (by show w.heap.size + 1 < _; omega)).trans h7, hide (Below.trans h8.out (hb.mono HX3.out.size))⟩)
      (fun S pre Wa Wb ⟨q, p, C, d, e0, e1, e2, h2, h3, h4, h5, h6⟩ ho => ⟨q, p, C, d, e0, e1, e2, h2, (World.cell?_of_block (w := Wa) (a := ⟨w.heap.size + 2, 0, none⟩) (ho.block (w.heap.size + 2) (World.block_lt_of_cell? _ _ h3) (by omega))).trans h3, (World.cell?_of_block (w := Wa) (a := ⟨w.heap.size + 3, 0, none⟩) (ho.block (w.heap.size + 3) (World.block_lt_of_cell? _ _ h4) (by omega))).trans h4, h5.onlyE ho (Nat.le_refl _), h6.only ho (by omega)⟩)
      ⟨noneIn_nil _ _, HXW.out.get B3.out, HXW.out.get B4.out, hfw.1, hfw.2, HXW.out.get B0.out, HXW.out.get B1.out, HXW.out.get B2.out, hide HX3.out⟩ ?body ?done ?stop
    case body =>
      rintro l m pre x A9 c9 Wa Wb ⟨h0, h1, h2, h3, h4, h5, h6, h7, h8⟩ hpre hx hsz
      have hxm : x ∈ ordersL n := hpre.subset (by simp)
      have hxl : x.length ≤ 1073741824 := by have := (ordersL_mem hxm).1; omega
      have hNone := hide h0
      have hPRE := hide (And.intro h0 (show w.heap.size + 4 ≤ Wb.heap.size by omega))
      have HXX := hide hx
      have HBX := hide (And.intro HFX.out.1 (HB.out x hxm))
      have hdep : Fence.wide.depth.isSome = true → 1 ≤ m := fun h => nomatch h
      clear hpre hx hxm h0
      have HI8 := hide (HI.out.ext h8.out)
      by_cases hw : winner xs x = a
      · have hwa : (winner xs x == a) = true := by simpa using hw
        have hFD := hide hw
        clear hw
        gi_wp2
        refine ⟨trivial, ?_⟩
        gi_wp2
        refine wp_region_round l m (fun ⟨_, _, h⟩ => h) (by kernel_rfl) (by intro i o c h; rcases i with _ | _ | _ | _ | _ | i <;> simp at h <;> subst h <;> simp) ?_
        refine wpAny_take (i := 1) (v := .slice A9 x.length c9) rfl (by kernel_rfl) (by kernel_rfl) (by kernel_rfl) (fun _ _ _ h => h) (Or.inl ⟨by rfl, ?_⟩) ?_
        · intro w; go_simp
        refine wpAny_ready (rs := [0,3]) (by kernel_rfl) (by simp) ?_
        refine AllReady.cons rfl (fun K hK => ?_) ?_
        · go_simp
          refine hK _ _ ?_
          clear hK K
          refine wpAny_ready (rs := [2,3]) (by kernel_rfl) (by simp) ?_
          refine AllReady.cons rfl (fun K hK => ?_) ?_
          · (go_simp; go_at_call 50; refine (iWinner_any _ _ _ _ xs _ _ _ x _ (HI8.out.ext ((Ext.refl _).drew)) (HXX.out.ext ((Ext.refl _).drew)) HBX.out.1 HBX.out.2).mono ?_; rintro e Wc ⟨rfl, hEc⟩; have k1 := hEc.get (show Wb.drew.cell? _ = _ from h1); have k2 := hEc.get (show Wb.drew.cell? _ = _ from h2); have k3 := (hEc.frozen (p := ⟨w.heap.size + 2, 0, none⟩) (World.block_lt_of_cell? Wb _ h1)).trans h3; have k4 := (hEc.frozen (p := ⟨w.heap.size + 3, 0, none⟩) (World.block_lt_of_cell? Wb _ h2)).trans h4; have k5 := hEc.get (show Wb.drew.cell? _ = _ from h5); have k6 := hEc.get (show Wb.drew.cell? _ = _ from h6); have k7 := hEc.get (show Wb.drew.cell? _ = _ from h7); go_simp)
            refine hK _ _ ?_
            clear hK K
            refine wpAny_ready (rs := [3]) (by kernel_rfl) (by simp) ?_
            refine AllReady.cons rfl (fun K hK => ?_) ?_
            · go_simp
              refine hK _ _ ?_
              clear hK K
              refine wpAny_ready (rs := [4]) (by kernel_rfl) (by simp) ?_
              refine AllReady.cons rfl (fun K hK => ?_) ?_
              · go_simp
                refine hK _ _ ?_
                clear hK K
                refine wpAny_done (by kernel_rfl) ?_ _
                (gi_wp2_with (first | fail | (refine ⟨trivial, hdep, ?_⟩; gi_at_call 51; refine (calls_round l _ (Clone_any _ _ _ x _ ((HXX.out.ext ((Ext.refl _).drew)).ext hEc) hxl)).mono ?_; rintro e Wd ⟨C, dC, rfl, hoC, hEd⟩; have g1 := hEd.get k1; have g2 := hEd.get k2; have g3 := (hEd.frozen (p := ⟨w.heap.size + 2, 0, none⟩) (World.block_lt_of_cell? Wc _ k1)).trans k3; have g4 := (hEd.frozen (p := ⟨w.heap.size + 3, 0, none⟩) (World.block_lt_of_cell? Wc _ k2)).trans k4))
                 exact stopped hFD.out hPRE.out (h8.out.drew.trans hEc) h8.out.size hEc hoC hEd g1 g2)
              exact AllReady.nil
            exact AllReady.nil
          refine AllReady.cons rfl (fun K hK => ?_) ?_
          · go_simp
            refine hK _ _ ?_
            clear hK K
            refine wpAny_ready (rs := [2]) (by kernel_rfl) (by simp) ?_
            refine AllReady.cons rfl (fun K hK => ?_) ?_
            · (go_simp; go_at_call 50; refine (iWinner_any _ _ _ _ xs _ _ _ x _ (HI8.out.ext ((Ext.refl _).drew)) (HXX.out.ext ((Ext.refl _).drew)) HBX.out.1 HBX.out.2).mono ?_; rintro e Wc ⟨rfl, hEc⟩; have k1 := hEc.get (show Wb.drew.cell? _ = _ from h1); have k2 := hEc.get (show Wb.drew.cell? _ = _ from h2); have k3 := (hEc.frozen (p := ⟨w.heap.size + 2, 0, none⟩) (World.block_lt_of_cell? Wb _ h1)).trans h3; have k4 := (hEc.frozen (p := ⟨w.heap.size + 3, 0, none⟩) (World.block_lt_of_cell? Wb _ h2)).trans h4; have k5 := hEc.get (show Wb.drew.cell? _ = _ from h5); have k6 := hEc.get (show Wb.drew.cell? _ = _ from h6); have k7 := hEc.get (show Wb.drew.cell? _ = _ from h7); go_simp)
              refine hK _ _ ?_
              clear hK K
              refine wpAny_ready (rs := [4]) (by kernel_rfl) (by simp) ?_
              refine AllReady.cons rfl (fun K hK => ?_) ?_
              · go_simp
                refine hK _ _ ?_
                clear hK K
                refine wpAny_done (by kernel_rfl) ?_ _
                (gi_wp2_with (first | fail | (refine ⟨trivial, hdep, ?_⟩; gi_at_call 51; refine (calls_round l _ (Clone_any _ _ _ x _ ((HXX.out.ext ((Ext.refl _).drew)).ext hEc) hxl)).mono ?_; rintro e Wd ⟨C, dC, rfl, hoC, hEd⟩; have g1 := hEd.get k1; have g2 := hEd.get k2; have g3 := (hEd.frozen (p := ⟨w.heap.size + 2, 0, none⟩) (World.block_lt_of_cell? Wc _ k1)).trans k3; have g4 := (hEd.frozen (p := ⟨w.heap.size + 3, 0, none⟩) (World.block_lt_of_cell? Wc _ k2)).trans k4))
                 exact stopped hFD.out hPRE.out (h8.out.drew.trans hEc) h8.out.size hEc hoC hEd g1 g2)
              exact AllReady.nil
            exact AllReady.nil
          exact AllReady.nil
        refine AllReady.cons rfl (fun K hK => ?_) ?_
        · go_simp
          refine hK _ _ ?_
          clear hK K
          refine wpAny_ready (rs := [0]) (by kernel_rfl) (by simp) ?_
          refine AllReady.cons rfl (fun K hK => ?_) ?_
          · go_simp
            refine hK _ _ ?_
            clear hK K
            refine wpAny_ready (rs := [2]) (by kernel_rfl) (by simp) ?_
            refine AllReady.cons rfl (fun K hK => ?_) ?_
            · (go_simp; go_at_call 50; refine (iWinner_any _ _ _ _ xs _ _ _ x _ (HI8.out.ext ((Ext.refl _).drew)) (HXX.out.ext ((Ext.refl _).drew)) HBX.out.1 HBX.out.2).mono ?_; rintro e Wc ⟨rfl, hEc⟩; have k1 := hEc.get (show Wb.drew.cell? _ = _ from h1); have k2 := hEc.get (show Wb.drew.cell? _ = _ from h2); have k3 := (hEc.frozen (p := ⟨w.heap.size + 2, 0, none⟩) (World.block_lt_of_cell? Wb _ h1)).trans h3; have k4 := (hEc.frozen (p := ⟨w.heap.size + 3, 0, none⟩) (World.block_lt_of_cell? Wb _ h2)).trans h4; have k5 := hEc.get (show Wb.drew.cell? _ = _ from h5); have k6 := hEc.get (show Wb.drew.cell? _ = _ from h6); have k7 := hEc.get (show Wb.drew.cell? _ = _ from h7); go_simp)
              refine hK _ _ ?_
              clear hK K
              refine wpAny_ready (rs := [4]) (by kernel_rfl) (by simp) ?_
              refine AllReady.cons rfl (fun K hK => ?_) ?_
              · go_simp
                refine hK _ _ ?_
                clear hK K
                refine wpAny_done (by kernel_rfl) ?_ _
                (gi_wp2_with (first | fail | (refine ⟨trivial, hdep, ?_⟩; gi_at_call 51; refine (calls_round l _ (Clone_any _ _ _ x _ ((HXX.out.ext ((Ext.refl _).drew)).ext hEc) hxl)).mono ?_; rintro e Wd ⟨C, dC, rfl, hoC, hEd⟩; have g1 := hEd.get k1; have g2 := hEd.get k2; have g3 := (hEd.frozen (p := ⟨w.heap.size + 2, 0, none⟩) (World.block_lt_of_cell? Wc _ k1)).trans k3; have g4 := (hEd.frozen (p := ⟨w.heap.size + 3, 0, none⟩) (World.block_lt_of_cell? Wc _ k2)).trans k4))
                 exact stopped hFD.out hPRE.out (h8.out.drew.trans hEc) h8.out.size hEc hoC hEd g1 g2)
              exact AllReady.nil
            exact AllReady.nil
          exact AllReady.nil
        exact AllReady.nil
      · have hwa : (winner xs x == a) = false := by simpa using hw
        have hNN := noneIn_snoc hNone.out hw
        replace hNN := hide hNN
        clear hw
        gi_wp2
        refine ⟨trivial, ?_⟩
        gi_wp2
        refine wp_region_round l m (fun ⟨_, _, h⟩ => h) (by kernel_rfl) (by intro i o c h; rcases i with _ | _ | _ | _ | _ | i <;> simp at h <;> subst h <;> simp) ?_
        refine wpAny_take (i := 1) (v := .slice A9 x.length c9) rfl (by kernel_rfl) (by kernel_rfl) (by kernel_rfl) (fun _ _ _ h => h) (Or.inl ⟨by rfl, ?_⟩) ?_
        · intro w; go_simp
        refine wpAny_ready (rs := [0,3]) (by kernel_rfl) (by simp) ?_
        refine AllReady.cons rfl (fun K hK => ?_) ?_
        · go_simp
          refine hK _ _ ?_
          clear hK K
          refine wpAny_ready (rs := [2,3]) (by kernel_rfl) (by simp) ?_
          refine AllReady.cons rfl (fun K hK => ?_) ?_
          · (go_simp; go_at_call 50; refine (iWinner_any _ _ _ _ xs _ _ _ x _ (HI8.out.ext ((Ext.refl _).drew)) (HXX.out.ext ((Ext.refl _).drew)) HBX.out.1 HBX.out.2).mono ?_; rintro e Wc ⟨rfl, hEc⟩; have k1 := hEc.get (show Wb.drew.cell? _ = _ from h1); have k2 := hEc.get (show Wb.drew.cell? _ = _ from h2); have k3 := (hEc.frozen (p := ⟨w.heap.size + 2, 0, none⟩) (World.block_lt_of_cell? Wb _ h1)).trans h3; have k4 := (hEc.frozen (p := ⟨w.heap.size + 3, 0, none⟩) (World.block_lt_of_cell? Wb _ h2)).trans h4; have k5 := hEc.get (show Wb.drew.cell? _ = _ from h5); have k6 := hEc.get (show Wb.drew.cell? _ = _ from h6); have k7 := hEc.get (show Wb.drew.cell? _ = _ from h7); go_simp)
            refine hK _ _ ?_
            clear hK K
            refine wpAny_ready (rs := [3]) (by kernel_rfl) (by simp) ?_
            refine AllReady.cons rfl (fun K hK => ?_) ?_
            · go_simp
              refine hK _ _ ?_
              clear hK K
              refine wpAny_ready (rs := [4]) (by kernel_rfl) (by simp) ?_
              refine AllReady.cons rfl (fun K hK => ?_) ?_
              · go_simp
                refine hK _ _ ?_
                clear hK K
                refine wpAny_done (by kernel_rfl) ?_ _
                (gi_wp2; exact ⟨(only_drew Wb _ _).trans (Only.of_ext hEc), hNN.out, k1, k2, k3, k4, k5, k6, k7, hide (h8.out.drew.trans hEc)⟩)
              exact AllReady.nil
            exact AllReady.nil
          refine AllReady.cons rfl (fun K hK => ?_) ?_
          · go_simp
            refine hK _ _ ?_
            clear hK K
            refine wpAny_ready (rs := [2]) (by kernel_rfl) (by simp) ?_
            refine AllReady.cons rfl (fun K hK => ?_) ?_
            · (go_simp; go_at_call 50; refine (iWinner_any _ _ _ _ xs _ _ _ x _ (HI8.out.ext ((Ext.refl _).drew)) (HXX.out.ext ((Ext.refl _).drew)) HBX.out.1 HBX.out.2).mono ?_; rintro e Wc ⟨rfl, hEc⟩; have k1 := hEc.get (show Wb.drew.cell? _ = _ from h1); have k2 := hEc.get (show Wb.drew.cell? _ = _ from h2); have k3 := (hEc.frozen (p := ⟨w.heap.size + 2, 0, none⟩) (World.block_lt_of_cell? Wb _ h1)).trans h3; have k4 := (hEc.frozen (p := ⟨w.heap.size + 3, 0, none⟩) (World.block_lt_of_cell? Wb _ h2)).trans h4; have k5 := hEc.get (show Wb.drew.cell? _ = _ from h5); have k6 := hEc.get (show Wb.drew.cell? _ = _ from h6); have k7 := hEc.get (show Wb.drew.cell? _ = _ from h7); go_simp)
              refine hK _ _ ?_
              clear hK K
              refine wpAny_ready (rs := [4]) (by kernel_rfl) (by simp) ?_
              refine AllReady.cons rfl (fun K hK => ?_) ?_
              · go_simp
                refine hK _ _ ?_
                clear hK K
                refine wpAny_done (by kernel_rfl) ?_ _
                (gi_wp2; exact ⟨(only_drew Wb _ _).trans (Only.of_ext hEc), hNN.out, k1, k2, k3, k4, k5, k6, k7, hide (h8.out.drew.trans hEc)⟩)
              exact AllReady.nil
            exact AllReady.nil
          exact AllReady.nil
        refine AllReady.cons rfl (fun K hK => ?_) ?_
        · go_simp
          refine hK _ _ ?_
          clear hK K
          refine wpAny_ready (rs := [0]) (by kernel_rfl) (by simp) ?_
          refine AllReady.cons rfl (fun K hK => ?_) ?_
          · go_simp
            refine hK _ _ ?_
            clear hK K
            refine wpAny_ready (rs := [2]) (by kernel_rfl) (by simp) ?_
            refine AllReady.cons rfl (fun K hK => ?_) ?_
            · (go_simp; go_at_call 50; refine (iWinner_any _ _ _ _ xs _ _ _ x _ (HI8.out.ext ((Ext.refl _).drew)) (HXX.out.ext ((Ext.refl _).drew)) HBX.out.1 HBX.out.2).mono ?_; rintro e Wc ⟨rfl, hEc⟩; have k1 := hEc.get (show Wb.drew.cell? _ = _ from h1); have k2 := hEc.get (show Wb.drew.cell? _ = _ from h2); have k3 := (hEc.frozen (p := ⟨w.heap.size + 2, 0, none⟩) (World.block_lt_of_cell? Wb _ h1)).trans h3; have k4 := (hEc.frozen (p := ⟨w.heap.size + 3, 0, none⟩) (World.block_lt_of_cell? Wb _ h2)).trans h4; have k5 := hEc.get (show Wb.drew.cell? _ = _ from h5); have k6 := hEc.get (show Wb.drew.cell? _ = _ from h6); have k7 := hEc.get (show Wb.drew.cell? _ = _ from h7); go_simp)
              refine hK _ _ ?_
              clear hK K
              refine wpAny_ready (rs := [4]) (by kernel_rfl) (by simp) ?_
              refine AllReady.cons rfl (fun K hK => ?_) ?_
              · go_simp
                refine hK _ _ ?_
                clear hK K
                refine wpAny_done (by kernel_rfl) ?_ _
                (gi_wp2; exact ⟨(only_drew Wb _ _).trans (Only.of_ext hEc), hNN.out, k1, k2, k3, k4, k5, k6, k7, hide (h8.out.drew.trans hEc)⟩)
              exact AllReady.nil
            exact AllReady.nil
          exact AllReady.nil
        exact AllReady.nil
    case done =>
      rintro D W ⟨h0, h1, h2, h3, h4, h5, h6, h7, h8⟩ hD hd
      have HD := hide (show ((W.setCell ⟨w.heap.size + 2, 0, none⟩ (.slice none 0 0)).setCell ⟨w.heap.size + 3, 0, none⟩ (.bool false)).heap[D]? = some (.deferred (some [])) by
        rw [Below.heap_setCell _ _ _ _ (by show D ≠ w.heap.size + 3; omega), Below.heap_setCell _ _ _ _ (by show D ≠ w.heap.size + 2; omega)]; exact hd)
      have HV := hide (show brkV (n : Int) xs a = [] ∧ brkB (n : Int) xs a = false by unfold brkV brkB; rw [HF.out, first_none HL.out h0]; exact ⟨rfl, rfl⟩)
      clear hd h0
      go_wp2
      refine ⟨by simp, .inl ⟨_, _, rfl, run_takeDeferred HD.out, ?_⟩⟩
      refine ⟨_, results_cellsE rfl _ _ rfl rfl ((World.cell?_of_block (w := (W.setCell ⟨w.heap.size + 2, 0, none⟩ (.slice none 0 0)).setCell ⟨w.heap.size + 3, 0, none⟩ (.bool false)) (World.putObj_heap_other (by show w.heap.size + 2 ≠ D; omega))).trans ((grown_setCell _ _ _).cell (World.cell?_setCell_same' _ _ _ (by rw [h1]; rfl)) (by simp)))
        ((World.cell?_of_block (w := (W.setCell ⟨w.heap.size + 2, 0, none⟩ (.slice none 0 0)).setCell ⟨w.heap.size + 3, 0, none⟩ (.bool false)) (World.putObj_heap_other (by show w.heap.size + 3 ≠ D; omega))).trans (World.cell?_setCell_same' _ _ _ (by rw [(grown_setCell W ⟨w.heap.size + 2, 0, none⟩ (.slice none 0 0)).cell h2 (by simp)]; rfl))), ?_⟩
      rw [HV.out.1, HV.out.2]
      exact RetIB.mk rfl rfl (OwI.nil _ _) (Below.trans ((h8.out.setCell (p := ⟨w.heap.size + 2, 0, none⟩) (by show w.heap.size ≤ w.heap.size + 2; omega) _).setCell (p := ⟨w.heap.size + 3, 0, none⟩) (by show w.heap.size ≤ w.heap.size + 3; omega) _) (below_putObj _ _ (by omega)))
    case stop =>
      rintro D S pre x W hpre ⟨q, p, C, d, e0, e1, e2, h2, h3, h4, h5, h6⟩ hD hd
      obtain ⟨rfl, rfl⟩ : pre = q ∧ x = p := by
        have := List.append_inj' e0 rfl
        exact ⟨this.1, by simpa using this.2⟩
      have HV := hide (show brkV (n : Int) xs a = x ∧ brkB (n : Int) xs a = true by unfold brkV brkB; rw [HF.out, first_some HL.out e1 e2 hpre]; exact ⟨rfl, rfl⟩)
      simp only [Exit.then, Exit.inBlock]
      refine ⟨by simp, .inl ⟨_, _, rfl, run_takeDeferred hd, ?_⟩⟩
      refine ⟨_, results_cellsE rfl _ _ rfl rfl ((World.cell?_of_block (w := W) (World.putObj_heap_other (by show w.heap.size + 2 ≠ D; omega))).trans h3) ((World.cell?_of_block (w := W) (World.putObj_heap_other (by show w.heap.size + 3 ≠ D; omega))).trans h4), ?_⟩
      rw [HV.out.1, HV.out.2]
      refine RetIB.mk rfl rfl ⟨(h5.mono (by omega)).ow.keep (fun k hk => World.putObj_heap_other (fun e => ?_)), h5.wf⟩ (Below.trans h6 (below_putObj _ _ (by omega)))
      subst e
      have hb := (h5.block k hk).2
      rcases h5.ow.own with ⟨e, _⟩ | ⟨b, off, cur, e, _, hh, _⟩
      · rw [e] at hk; cases hk
      · rw [e] at hk
        cases hk
        rw [hd] at hh
        cases hh
  · have HV := hide (show brkV s xs a = [] ∧ brkB s xs a = false by unfold brkV brkB brkO; rw [if_neg hs]; exact ⟨rfl, rfl⟩)
    by_cases hf : fixedOk s xs
    · have hn := tourOk_sz hf.1 HL.out
      have hs100 : 0 ≤ s ∧ s ≤ 100 := by omega
      have HHA := hide (show decide (0 ≤ a ∧ a ≤ s - 1) = false from decide_eq_false fun h => hs ⟨hf, h⟩)
      have HFX := hide hf
      clear hs hf
      go_enter Tryd.func9, Tryd.ntmps9
      go_wp2_with (first
        | (rw [← HW.out]; go_at_call 41; refine (isFixed_any _ _ _ _ xs _ (HI.out.ext HE.out)).mono ?_; rw [decide_eq_true HFX.out]; rintro e w1 ⟨rfl, hE1⟩; have b0 := hE1.get B0.out; have b1 := hE1.get B1.out; have b2 := hE1.get B2.out)
        | (go_at_call 47; refine (has_any _ _ _ _ _ _ hs100).mono ?_; rw [HHA.out]; rintro e w2 ⟨rfl, hE2⟩; have g0 := (FZ.out _ (hE1.trans hE2)).1; have g1 := (FZ.out _ (hE1.trans hE2)).2; have d0 := (hE1.trans hE2).get B3.out; have d1 := (hE1.trans hE2).get B4.out)
        | fail)
      refine bodyPost_ret (results_cellsE rfl _ _ rfl rfl ((grown_setCell _ _ _).cell (World.cell?_setCell_same' _ _ _ (by rw [d0]; rfl)) (by simp)) (World.cell?_setCell_same' _ _ _ (by rw [(grown_setCell w2 ⟨w.heap.size + 2, 0, none⟩ (.slice none 0 0)).cell d1 (by simp)]; rfl))) rfl ?_
      rw [HV.out.1, HV.out.2]
      exact RetIB.mk rfl rfl (OwI.nil _ _) ((((HE.out.trans hE1).trans hE2).setCell (p := ⟨w.heap.size + 2, 0, none⟩) (by show w.heap.size ≤ w.heap.size + 2; omega) _).setCell (p := ⟨w.heap.size + 3, 0, none⟩) (by show w.heap.size ≤ w.heap.size + 3; omega) _)
    · have HFX := hide hf
      clear hs hf
      go_enter Tryd.func9, Tryd.ntmps9
      go_wp2_with (first
        | (rw [← HW.out]; go_at_call 41; refine (isFixed_any _ _ _ _ xs _ (HI.out.ext HE.out)).mono ?_; rw [decide_eq_false HFX.out]; rintro e w1 ⟨rfl, hE1⟩; have g0 := (FZ.out _ hE1).1; have g1 := (FZ.out _ hE1).2; have d0 := hE1.get B3.out; have d1 := hE1.get B4.out)
        | fail)
      refine bodyPost_ret (results_cellsE rfl _ _ rfl rfl ((grown_setCell _ _ _).cell (World.cell?_setCell_same' _ _ _ (by rw [d0]; rfl)) (by simp)) (World.cell?_setCell_same' _ _ _ (by rw [(grown_setCell w1 ⟨w.heap.size + 2, 0, none⟩ (.slice none 0 0)).cell d1 (by simp)]; rfl))) rfl ?_
      rw [HV.out.1, HV.out.2]
      exact RetIB.mk rfl rfl (OwI.nil _ _) (((HE.out.trans hE1).setCell (p := ⟨w.heap.size + 2, 0, none⟩) (by show w.heap.size ≤ w.heap.size + 2; omega) _).setCell (p := ⟨w.heap.size + 3, 0, none⟩) (by show w.heap.size ≤ w.heap.size + 3; omega) _)

end Go.Proofs.YtbaljgdepicigaaDoor
