/-
  How many brackets a player wins: the program's count.
-/
import Derived.Laws.ShiftsVar
import Derived.Test.YtbaljgdepicigaaDoorBase
import Derived.Test.YtbaljgdepicigaaDoorMgA
import Derived.Test.YtbaljgdepicigaaDoorLib
import Derived.Test.YtbaljgdepicigaaDoorAid
import Derived.Test.YtbaljgdepicigaaDoorStep
import Derived.Test.YtbaljgdepicigaaDoorGrid
import Derived.Test.YtbaljgdepicigaaDoorLibF
import Derived.Test.YtbaljgdepicigaaDoorMgB
import Derived.Test.YtbaljgdepicigaaDoorSeed
import Derived.Test.YtbaljgdepicigaaDoorTour
import Derived.Test.YtbaljgdepicigaaDoorTourB
import Derived.Test.YtbaljgdepicigaaDoorBrack
import Derived.Test.YtbaljgdepicigaaDoorBrackB
import Derived.Test.YtbaljgdepicigaaDoorDblB
import Derived.Test.YtbaljgdepicigaaDoorPop
import Derived.Test.YtbaljgdepicigaaDoorWin
import Derived.Test.YtbaljgdepicigaaDoorWinC
import Derived.Test.YtbaljgdepicigaaDoorRangeA
import Derived.Test.YtbaljgdepicigaaDoorFillD
import Derived.Test.YtbaljgdepicigaaDoorFillE
import Derived.Test.YtbaljgdepicigaaDoorFillF
import Derived.Test.YtbaljgdepicigaaDoorFillG
import Derived.Test.YtbaljgdepicigaaDoorRangeB
import Derived.Test.YtbaljgdepicigaaDoorExtA
import Derived.Test.YtbaljgdepicigaaDoorExtB
namespace Go.Proofs.YtbaljgdepicigaaDoor
open Go.RowKit
set_option linter.unusedVariables false
set_option maxRecDepth 100000
attribute [local go_sem] Oper.semAt_some

-- words
def ordersL (n : Nat) : List (List Int) := extL (upto n) n []
def cntOk (s : Int) (xs : List Int) (a : Int) : Prop := fixedOk s xs ∧ ¬ s = 8 ∧ 0 ≤ a ∧ a ≤ s - 1
instance (s : Int) (xs : List Int) (a : Int) : Decidable (cntOk s xs a) := by unfold cntOk; infer_instance
def cntP (xs : List Int) (a : Int) (l : List (List Int)) : Nat := l.countP fun p => decide (winner xs p = a)
def countFor (s : Int) (xs : List Int) (a : Int) : Int := if cntOk s xs a then (cntP xs a (ordersL xs.length) : Int) else -1
theorem cntP_snoc_yes {xs : List Int} {a : Int} {l : List (List Int)} {p : List Int} (h : winner xs p = a) : cntP xs a (l ++ [p]) = cntP xs a l + 1 := by simp [cntP, h]
theorem cntP_snoc_no {xs : List Int} {a : Int} {l : List (List Int)} {p : List Int} (h : ¬ winner xs p = a) : cntP xs a (l ++ [p]) = cntP xs a l := by simp [cntP, h]
theorem cntP_le {xs : List Int} {a : Int} {l : List (List Int)} : cntP xs a l ≤ l.length := List.countP_le_length
theorem ordersL_mem {n : Nat} {p : List Int} (h : p ∈ ordersL n) : p.length = n ∧ (∀ x ∈ p, 0 ≤ x ∧ x < (n : Int)) ∧ p.Nodup := by
  obtain ⟨q, rfl, h1, h2, h3⟩ := (mem_extL n [] p).1 h
  refine ⟨by simpa using h1, fun x hx => ?_, by simpa using h3⟩
  have := (h2 x (by simpa using hx)).1
  simp [upto] at this
  obtain ⟨i, hi, rfl⟩ := this
  omega
theorem ordersL_brk {s : Int} {xs : List Int} {n : Nat} (hf : fixedOk s xs) (hl : xs.length = n) {p : List Int} (h : p ∈ ordersL n) : brk s p := by
  obtain ⟨h1, h2, h3⟩ := ordersL_mem h
  have hs := tourOk_sz hf.1 hl
  have hpl : plrs p = p := by
    unfold plrs
    exact List.filter_eq_self.2 fun x hx => by have := h2 x hx; simp; omega
  refine ⟨by have := hf.2; rw [h1]; rwa [show s = (n : Int) by omega] at this, fun x hx => by have := h2 x hx; omega, ?_, by rw [hpl]; exact h3⟩
  rw [hpl]
  intro e
  rw [e] at h1
  simp at h1
  omega
theorem extL_len (list : List Int) : ∀ (k : Nat) (o : List Int), (extL list k o).length ≤ list.length ^ k := by
  intro k
  induction k with
  | zero => intro o; simp [extL]
  | succ k ih =>
    intro o
    have key : ∀ l : List Int, (l.flatMap (extStep list o k)).length ≤ l.length * list.length ^ k := by
      intro l
      induction l with
      | nil => simp
      | cons x l ihl =>
        rw [List.flatMap_cons, List.length_append, List.length_cons, Nat.succ_mul]
        have : (extStep list o k x).length ≤ list.length ^ k := by
          unfold extStep
          split
          · simp
          · exact ih _
        omega
    rw [extL_succ, Nat.pow_succ, Nat.mul_comm]
    exact key list
-- impl.CountBracketsFor
set_option maxHeartbeats 1000000 in
theorem iCountFor_any (s : Int) (A : Option Addr) (n c : Nat) (xs : List Int) (a : Int) (w : World) (h : Ints w A n c xs) :
    Calls Tryd.prog 18 #[.agg #[.int .i64 s, .slice A n c], .int .i64 a] w fun e w' => e = .returned (.int .i64 (countFor s xs a)) ∧ Ext w w' := by
  have HL := hide h.len
  have HI := hide h
  have hle := h.le
  have hmx := h.max
  clear h
  by_cases hs : cntOk s xs a
  · have HF := hide (show countFor s xs a = (cntP xs a (ordersL n) : Int) by unfold countFor; rw [if_pos hs, HL.out])
    have hn := tourOk_sz hs.1.1 HL.out
    obtain rfl : s = (n : Int) := by omega
    have hs8 : ((n : Int) == 8) = false := by have := hs.2.1; simp; omega
    have hn8 : n ≤ 8 := hn.2.1
    have HFX := hide hs.1
    have HHA := hide (show decide (0 ≤ a ∧ a ≤ (n : Int) - 1) = true from decide_eq_true hs.2.2)
    have hs100 : 0 ≤ (n : Int) ∧ (n : Int) ≤ 100 := by omega
    have HB := hide (fun p hp => ordersL_brk (p := p) hs.1 HL.out hp)
    clear hs
    obtain ⟨W, hW⟩ : ∃ W : World, W = (w.alloc (.cells #[.int .i64 (n : Int), .slice A n c] 26)).alloc (.cells #[.int .i64 a] 3) := ⟨_, rfl⟩
    have HE := hide (show Ext w W by rw [hW]; exact (Ext.one _ _).alloc _)
    have B0 := hide (show W.cell? ⟨w.heap.size, 0, none⟩ = some (.int .i64 (n : Int)) by rw [hW]; simp)
    have B1 := hide (show W.cell? ⟨w.heap.size, 1, none⟩ = some (.slice A n c) by rw [hW]; simp)
    have B2 := hide (show W.cell? ⟨w.heap.size + 1, 0, none⟩ = some (.int .i64 a) by rw [hW]; simp)
    have hzW : W.heap.size = w.heap.size + 2 := by rw [hW]; simp
    refine calls_marks Tryd.func18 rfl ?_
    simp only [Tryd.ntmps18, List.size_toArray, List.length_cons, List.length_nil, Nat.reduceAdd, Nat.reduceSub, Array.replicate_succ, Array.replicate_zero, List.push_toArray, List.append_toArray, List.nil_append, List.cons_append]
    go_wp2_with (first
      | (rw [← hW]; go_at_call 41; refine (isFixed_any _ _ _ _ xs _ (HI.out.ext HE.out)).mono ?_; rw [decide_eq_true HFX.out]; rintro e w1 ⟨rfl, hE1⟩; have b0 := hE1.get B0.out; have b1 := hE1.get B1.out; have b2 := hE1.get B2.out)
      | (go_at_call 47; refine (has_any _ _ _ _ _ _ hs100).mono ?_; rw [HHA.out]; rintro e w2 ⟨rfl, hE2⟩; have d0 := hE2.get b0; have d1 := hE2.get b1; have d2 := hE2.get b2; have e0 := (Ext.one w2 (.cells #[.int .i64 0] 3)).get d0)
      | (go_at_call 49; refine (indices_any n _ (by omega)).mono ?_; rintro e w4 ⟨Bo, d, rfl, hoB, hE4⟩)
      | (go_at_call 48; refine (orders_any _ _ _ _).mono ?_; rintro e w3 ⟨bL, rfl, hbL, hcL, hE3⟩)
      | fail)
    rw [upto_len] at hoB hcL
    have hz1 := hE1.size
    have hz2 := hE2.size
    have hz4 := hE4.size
    have hz3 := hE3.size
    simp only [World.size_alloc] at hz4
    have hbs := hoB.block
    simp only [World.size_alloc] at hbs
    have hn0 : 0 < n := by omega
    have hzw := HE.out.size
    have HX2 := hide (hE2.trans ((Ext.one w2 (.cells #[.int .i64 0] 3)).trans (hE4.trans hE3)))
    have hc0 : (w2.alloc (.cells #[.int .i64 0] 3)).cell? ⟨w2.heap.size, 0, none⟩ = some (.int .i64 0) := by simp
    have hf0 : (w2.alloc (.cells #[.int .i64 0] 3)).frozen? ⟨w2.heap.size, 0, none⟩ = false := by simp
    have hcw := (hE4.trans hE3).get hc0
    have hfw := ((hE4.trans hE3).frozen (p := ⟨w2.heap.size, 0, none⟩) (by simp)).trans hf0
    have HB3 := hide (hoB.ints.ext hE3)
    have HXW := hide (hE1.trans HX2.out)
    have HX3 := hide (HE.out.trans HXW.out)
    have HLB := hide (show (ordersL n).length ≤ 16777216 from Nat.le_trans (extL_len _ _ _) (by rw [upto_len]; exact Nat.le_trans (Nat.pow_le_pow_left hn8 n) (Nat.le_trans (Nat.pow_le_pow_right (by omega) hn8) (by decide))))
    have G := orders_gives (lo := w2.heap.size) (hi := w2.heap.size + 1) w3 hn8 hn0 (upto_len n) (upto_nodup n) hcL HB3.out (by omega) (by omega) (fun k hk => by have := (hbs k hk).1; omega)
    have HG := hide G
    clear G hoB hE1 hE2 hE3 hE4 hbs hc0 hf0
    refine wp_range HG.out rfl (enters_of Tryd.func80 (by kernel_rfl) rfl) rfl (by omega)
      (fun pre W => W.cell? ⟨w2.heap.size, 0, none⟩ = some (.int .i64 (cntP xs a pre : Int)) ∧ W.frozen? ⟨w2.heap.size, 0, none⟩ = false ∧ W.cell? ⟨w.heap.size, 0, none⟩ = some (.int .i64 (n : Int)) ∧ W.cell? ⟨w.heap.size, 1, none⟩ = some (.slice A n c) ∧ W.cell? ⟨w.heap.size + 1, 0, none⟩ = some (.int .i64 a) ∧ Hid (Ext w W))
      (fun _ _ _ => False)
      (fun pre Wa Wb ⟨h1, h2, h3, h4, h5, h6⟩ hb => ⟨(hb.cell (p := ⟨w2.heap.size, 0, none⟩) (by show w2.heap.size < _; omega)).trans h1, (hb.frozen (p := ⟨w2.heap.size, 0, none⟩) (by show w2.heap.size < _; omega)).trans h2, (hb.cell (p := ⟨w.heap.size, 0, none⟩) (by show w.heap.size < _; omega)).trans h3, (hb.cell (p := ⟨w.heap.size, 1, none⟩) (by show w.heap.size < _; omega)).trans h4, (hb.cell (p := ⟨w.heap.size + 1, 0, none⟩) (by show w.heap.size + 1 < _; omega)).trans h5, hide (Below.trans h6.out (hb.mono HX3.out.size))⟩)
      (fun _ _ _ _ h _ => h) ⟨hcw, hfw, HXW.out.get B0.out, HXW.out.get B1.out, HXW.out.get B2.out, hide HX3.out⟩ ?body ?done ?stop
    case body =>
      rintro l m pre x A9 c9 Wa Wb ⟨h1, h2, h3, h4, h5, h6⟩ hpre hx hsz
      have hlen : cntP xs a pre + 1 ≤ 16777216 := by have := hpre.length_le; have := HLB.out; have := cntP_le (xs := xs) (a := a) (l := pre); simp [ordersL] at *; omega
      have hxm : x ∈ ordersL n := hpre.subset (by simp)
      have HPRE := hide hpre
      have HXX := hide hx
      have HBX := hide (And.intro HFX.out.1 (HB.out x hxm))
      have hdep : Fence.wide.depth.isSome = true → 1 ≤ m := fun h => nomatch h
      clear hpre hx hxm
      have HI6 := hide (HI.out.ext h6.out)
      by_cases hw : winner xs x = a
      · have hwa : (winner xs x == a) = true := by simpa using hw
        have HCN := hide (cntP_snoc_yes (l := pre) hw)
        clear hw
        gi_wp2
        refine ⟨trivial, ?_⟩
        gi_wp2
        refine wp_region_round l m (fun ⟨_, _, h⟩ => h) (by kernel_rfl) (by intro i o c h; rcases i with _ | _ | _ | _ | _ | i <;> simp at h <;> subst h <;> simp) ?_
        refine wpAny_take (i := 1) (v := .slice A9 x.length c9) rfl (by kernel_rfl) (by kernel_rfl) (by kernel_rfl) (fun _ _ _ h => h) (Or.inl ⟨by rfl, ?_⟩) ?_
        · intro w; go_simp
        refine wpAny_ready (rs := [0,3]) (by kernel_rfl) (by simp) ?_
        refine AllReady.cons rfl (fun K hK => ?_) ?_
        · go_simp
          refine hK _ _ ?_
          clear hK K
          refine wpAny_ready (rs := [2,3]) (by kernel_rfl) (by simp) ?_
          refine AllReady.cons rfl (fun K hK => ?_) ?_
          · (go_simp; go_at_call 50; refine (iWinner_any _ _ _ _ xs _ _ _ x _ (HI6.out.ext ((Ext.refl _).drew)) (HXX.out.ext ((Ext.refl _).drew)) HBX.out.1 HBX.out.2).mono ?_; rintro e Wc ⟨rfl, hEc⟩; have k1 := hEc.get (show Wb.drew.cell? _ = _ from h1); have k2 := (hEc.frozen (p := ⟨w2.heap.size, 0, none⟩) (World.block_lt_of_cell? Wb _ h1)).trans h2; have k3 := hEc.get (show Wb.drew.cell? _ = _ from h3); have k4 := hEc.get (show Wb.drew.cell? _ = _ from h4); have k5 := hEc.get (show Wb.drew.cell? _ = _ from h5); go_simp)
            refine hK _ _ ?_
            clear hK K
            refine wpAny_ready (rs := [3]) (by kernel_rfl) (by simp) ?_
            refine AllReady.cons rfl (fun K hK => ?_) ?_
            · go_simp
              refine hK _ _ ?_
              clear hK K
              refine wpAny_ready (rs := [4]) (by kernel_rfl) (by simp) ?_
              refine AllReady.cons rfl (fun K hK => ?_) ?_
              · go_simp
                refine hK _ _ ?_
                clear hK K
                refine wpAny_done (by kernel_rfl) ?_ _
                (gi_wp2; exact ⟨((only_drew Wb _ _).trans (Only.of_ext hEc)).trans (only_store Wc (k := 0) _ (Nat.le_refl _) (Nat.lt_succ_self _)), by rw [HCN.out, Int.natCast_add]; exact World.cell?_setCell_same' _ _ _ (by rw [k1]; rfl), by rw [World.frozen?_setCell]; exact k2, (grown_setCell _ _ _).cell k3 (by simp; omega), (grown_setCell _ _ _).cell k4 (by simp; omega), (grown_setCell _ _ _).cell k5 (by simp; omega), hide ((h6.out.drew.trans hEc).setCell (p := ⟨w2.heap.size, 0, none⟩) (by show w.heap.size ≤ w2.heap.size; omega) _)⟩)
              exact AllReady.nil
            exact AllReady.nil
          refine AllReady.cons rfl (fun K hK => ?_) ?_
          · go_simp
            refine hK _ _ ?_
            clear hK K
            refine wpAny_ready (rs := [2]) (by kernel_rfl) (by simp) ?_
            refine AllReady.cons rfl (fun K hK => ?_) ?_
            · (go_simp; go_at_call 50; refine (iWinner_any _ _ _ _ xs _ _ _ x _ (HI6.out.ext ((Ext.refl _).drew)) (HXX.out.ext ((Ext.refl _).drew)) HBX.out.1 HBX.out.2).mono ?_; rintro e Wc ⟨rfl, hEc⟩; have k1 := hEc.get (show Wb.drew.cell? _ = _ from h1); have k2 := (hEc.frozen (p := ⟨w2.heap.size, 0, none⟩) (World.block_lt_of_cell? Wb _ h1)).trans h2; have k3 := hEc.get (show Wb.drew.cell? _ = _ from h3); have k4 := hEc.get (show Wb.drew.cell? _ = _ from h4); have k5 := hEc.get (show Wb.drew.cell? _ = _ from h5); go_simp)
              refine hK _ _ ?_
              clear hK K
              refine wpAny_ready (rs := [4]) (by kernel_rfl) (by simp) ?_
              refine AllReady.cons rfl (fun K hK => ?_) ?_
              · go_simp
                refine hK _ _ ?_
                clear hK K
                refine wpAny_done (by kernel_rfl) ?_ _
                (gi_wp2; exact ⟨((only_drew Wb _ _).trans (Only.of_ext hEc)).trans (only_store Wc (k := 0) _ (Nat.le_refl _) (Nat.lt_succ_self _)), by rw [HCN.out, Int.natCast_add]; exact World.cell?_setCell_same' _ _ _ (by rw [k1]; rfl), by rw [World.frozen?_setCell]; exact k2, (grown_setCell _ _ _).cell k3 (by simp; omega), (grown_setCell _ _ _).cell k4 (by simp; omega), (grown_setCell _ _ _).cell k5 (by simp; omega), hide ((h6.out.drew.trans hEc).setCell (p := ⟨w2.heap.size, 0, none⟩) (by show w.heap.size ≤ w2.heap.size; omega) _)⟩)
              exact AllReady.nil
            exact AllReady.nil
          exact AllReady.nil
        refine AllReady.cons rfl (fun K hK => ?_) ?_
        · go_simp
          refine hK _ _ ?_
          clear hK K
          refine wpAny_ready (rs := [0]) (by kernel_rfl) (by simp) ?_
          refine AllReady.cons rfl (fun K hK => ?_) ?_
          · go_simp
            refine hK _ _ ?_
            clear hK K
            refine wpAny_ready (rs := [2]) (by kernel_rfl) (by simp) ?_
            refine AllReady.cons rfl (fun K hK => ?_) ?_
            · (go_simp; go_at_call 50; refine (iWinner_any _ _ _ _ xs _ _ _ x _ (HI6.out.ext ((Ext.refl _).drew)) (HXX.out.ext ((Ext.refl _).drew)) HBX.out.1 HBX.out.2).mono ?_; rintro e Wc ⟨rfl, hEc⟩; have k1 := hEc.get (show Wb.drew.cell? _ = _ from h1); have k2 := (hEc.frozen (p := ⟨w2.heap.size, 0, none⟩) (World.block_lt_of_cell? Wb _ h1)).trans h2; have k3 := hEc.get (show Wb.drew.cell? _ = _ from h3); have k4 := hEc.get (show Wb.drew.cell? _ = _ from h4); have k5 := hEc.get (show Wb.drew.cell? _ = _ from h5); go_simp)
              refine hK _ _ ?_
              clear hK K
              refine wpAny_ready (rs := [4]) (by kernel_rfl) (by simp) ?_
              refine AllReady.cons rfl (fun K hK => ?_) ?_
              · go_simp
                refine hK _ _ ?_
                clear hK K
                refine wpAny_done (by kernel_rfl) ?_ _
                (gi_wp2; exact ⟨((only_drew Wb _ _).trans (Only.of_ext hEc)).trans (only_store Wc (k := 0) _ (Nat.le_refl _) (Nat.lt_succ_self _)), by rw [HCN.out, Int.natCast_add]; exact World.cell?_setCell_same' _ _ _ (by rw [k1]; rfl), by rw [World.frozen?_setCell]; exact k2, (grown_setCell _ _ _).cell k3 (by simp; omega), (grown_setCell _ _ _).cell k4 (by simp; omega), (grown_setCell _ _ _).cell k5 (by simp; omega), hide ((h6.out.drew.trans hEc).setCell (p := ⟨w2.heap.size, 0, none⟩) (by show w.heap.size ≤ w2.heap.size; omega) _)⟩)
              exact AllReady.nil
            exact AllReady.nil
          exact AllReady.nil
        exact AllReady.nil
      · have hwa : (winner xs x == a) = false := by simpa using hw
        have HCN := hide (cntP_snoc_no (l := pre) hw)
        clear hw
        gi_wp2
        refine ⟨trivial, ?_⟩
        gi_wp2
        refine wp_region_round l m (fun ⟨_, _, h⟩ => h) (by kernel_rfl) (by intro i o c h; rcases i with _ | _ | _ | _ | _ | i <;> simp at h <;> subst h <;> simp) ?_
        refine wpAny_take (i := 1) (v := .slice A9 x.length c9) rfl (by kernel_rfl) (by kernel_rfl) (by kernel_rfl) (fun _ _ _ h => h) (Or.inl ⟨by rfl, ?_⟩) ?_
        · intro w; go_simp
        refine wpAny_ready (rs := [0,3]) (by kernel_rfl) (by simp) ?_
        refine AllReady.cons rfl (fun K hK => ?_) ?_
        · go_simp
          refine hK _ _ ?_
          clear hK K
          refine wpAny_ready (rs := [2,3]) (by kernel_rfl) (by simp) ?_
          refine AllReady.cons rfl (fun K hK => ?_) ?_
          · (go_simp; go_at_call 50; refine (iWinner_any _ _ _ _ xs _ _ _ x _ (HI6.out.ext ((Ext.refl _).drew)) (HXX.out.ext ((Ext.refl _).drew)) HBX.out.1 HBX.out.2).mono ?_; rintro e Wc ⟨rfl, hEc⟩; have k1 := hEc.get (show Wb.drew.cell? _ = _ from h1); have k2 := (hEc.frozen (p := ⟨w2.heap.size, 0, none⟩) (World.block_lt_of_cell? Wb _ h1)).trans h2; have k3 := hEc.get (show Wb.drew.cell? _ = _ from h3); have k4 := hEc.get (show Wb.drew.cell? _ = _ from h4); have k5 := hEc.get (show Wb.drew.cell? _ = _ from h5); go_simp)
            refine hK _ _ ?_
            clear hK K
            refine wpAny_ready (rs := [3]) (by kernel_rfl) (by simp) ?_
            refine AllReady.cons rfl (fun K hK => ?_) ?_
            · go_simp
              refine hK _ _ ?_
              clear hK K
              refine wpAny_ready (rs := [4]) (by kernel_rfl) (by simp) ?_
              refine AllReady.cons rfl (fun K hK => ?_) ?_
              · go_simp
                refine hK _ _ ?_
                clear hK K
                refine wpAny_done (by kernel_rfl) ?_ _
                (gi_wp2; exact ⟨(only_drew Wb _ _).trans (Only.of_ext hEc), by rw [HCN.out]; exact k1, k2, k3, k4, k5, hide (h6.out.drew.trans hEc)⟩)
              exact AllReady.nil
            exact AllReady.nil
          refine AllReady.cons rfl (fun K hK => ?_) ?_
          · go_simp
            refine hK _ _ ?_
            clear hK K
            refine wpAny_ready (rs := [2]) (by kernel_rfl) (by simp) ?_
            refine AllReady.cons rfl (fun K hK => ?_) ?_
            · (go_simp; go_at_call 50; refine (iWinner_any _ _ _ _ xs _ _ _ x _ (HI6.out.ext ((Ext.refl _).drew)) (HXX.out.ext ((Ext.refl _).drew)) HBX.out.1 HBX.out.2).mono ?_; rintro e Wc ⟨rfl, hEc⟩; have k1 := hEc.get (show Wb.drew.cell? _ = _ from h1); have k2 := (hEc.frozen (p := ⟨w2.heap.size, 0, none⟩) (World.block_lt_of_cell? Wb _ h1)).trans h2; have k3 := hEc.get (show Wb.drew.cell? _ = _ from h3); have k4 := hEc.get (show Wb.drew.cell? _ = _ from h4); have k5 := hEc.get (show Wb.drew.cell? _ = _ from h5); go_simp)
              refine hK _ _ ?_
              clear hK K
              refine wpAny_ready (rs := [4]) (by kernel_rfl) (by simp) ?_
              refine AllReady.cons rfl (fun K hK => ?_) ?_
              · go_simp
                refine hK _ _ ?_
                clear hK K
                refine wpAny_done (by kernel_rfl) ?_ _
                (gi_wp2; exact ⟨(only_drew Wb _ _).trans (Only.of_ext hEc), by rw [HCN.out]; exact k1, k2, k3, k4, k5, hide (h6.out.drew.trans hEc)⟩)
              exact AllReady.nil
            exact AllReady.nil
          exact AllReady.nil
        refine AllReady.cons rfl (fun K hK => ?_) ?_
        · go_simp
          refine hK _ _ ?_
          clear hK K
          refine wpAny_ready (rs := [0]) (by kernel_rfl) (by simp) ?_
          refine AllReady.cons rfl (fun K hK => ?_) ?_
          · go_simp
            refine hK _ _ ?_
            clear hK K
            refine wpAny_ready (rs := [2]) (by kernel_rfl) (by simp) ?_
            refine AllReady.cons rfl (fun K hK => ?_) ?_
            · (go_simp; go_at_call 50; refine (iWinner_any _ _ _ _ xs _ _ _ x _ (HI6.out.ext ((Ext.refl _).drew)) (HXX.out.ext ((Ext.refl _).drew)) HBX.out.1 HBX.out.2).mono ?_; rintro e Wc ⟨rfl, hEc⟩; have k1 := hEc.get (show Wb.drew.cell? _ = _ from h1); have k2 := (hEc.frozen (p := ⟨w2.heap.size, 0, none⟩) (World.block_lt_of_cell? Wb _ h1)).trans h2; have k3 := hEc.get (show Wb.drew.cell? _ = _ from h3); have k4 := hEc.get (show Wb.drew.cell? _ = _ from h4); have k5 := hEc.get (show Wb.drew.cell? _ = _ from h5); go_simp)
              refine hK _ _ ?_
              clear hK K
              refine wpAny_ready (rs := [4]) (by kernel_rfl) (by simp) ?_
              refine AllReady.cons rfl (fun K hK => ?_) ?_
              · go_simp
                refine hK _ _ ?_
                clear hK K
                refine wpAny_done (by kernel_rfl) ?_ _
                (gi_wp2; exact ⟨(only_drew Wb _ _).trans (Only.of_ext hEc), by rw [HCN.out]; exact k1, k2, k3, k4, k5, hide (h6.out.drew.trans hEc)⟩)
              exact AllReady.nil
            exact AllReady.nil
          exact AllReady.nil
        exact AllReady.nil
    case done =>
      rintro D W ⟨h1, h2, h3, h4, h5, h6⟩ hD hd
      have HD := hide hd
      clear hd
      go_wp2
      refine ⟨by simp, .inl ⟨_, _, rfl, run_takeDeferred HD.out, ?_⟩⟩
      refine ⟨_, results_tmp rfl _ _ _, ?_, ?_⟩
      · exact ret_int HF.out.symm
      exact Below.trans h6.out (below_putObj _ _ (Nat.le_trans HX3.out.size hD))
    case stop => exact fun _ _ _ _ _ _ h => h.elim
  · have HF := hide (show countFor s xs a = -1 from if_neg hs)
    by_cases hf : fixedOk s xs
    · have hn := tourOk_sz hf.1 HL.out
      have hs100 : 0 ≤ s ∧ s ≤ 100 := by omega
      by_cases h8 : s = 8
      · have hb8 : (s == 8) = true := by simpa using h8
        have HFX := hide hf
        clear hs hf h8
        obtain ⟨W, hW⟩ : ∃ W : World, W = (w.alloc (.cells #[.int .i64 s, .slice A n c] 26)).alloc (.cells #[.int .i64 a] 3) := ⟨_, rfl⟩
        have HE := hide (show Ext w W by rw [hW]; exact (Ext.one _ _).alloc _)
        have B0 := hide (show W.cell? ⟨w.heap.size, 0, none⟩ = some (.int .i64 s) by rw [hW]; simp)
        have B1 := hide (show W.cell? ⟨w.heap.size, 1, none⟩ = some (.slice A n c) by rw [hW]; simp)
        have B2 := hide (show W.cell? ⟨w.heap.size + 1, 0, none⟩ = some (.int .i64 a) by rw [hW]; simp)
        go_enter Tryd.func18, Tryd.ntmps18
        go_wp2_with (first
          | (rw [← hW]; go_at_call 41; refine (isFixed_any _ _ _ _ xs _ (HI.out.ext HE.out)).mono ?_; rw [decide_eq_true HFX.out]; rintro e w1 ⟨rfl, hE1⟩; have b0 := hE1.get B0.out; have b1 := hE1.get B1.out; have b2 := hE1.get B2.out)
          | fail)
        go_ret
        exact ⟨ret_int HF.out.symm, HE.out.trans hE1⟩
      · have hb8 : (s == 8) = false := by simpa using h8
        have HHA := hide (show decide (0 ≤ a ∧ a ≤ s - 1) = false from decide_eq_false fun h => hs ⟨hf, h8, h⟩)
        have HFX := hide hf
        clear hs hf h8
        obtain ⟨W, hW⟩ : ∃ W : World, W = (w.alloc (.cells #[.int .i64 s, .slice A n c] 26)).alloc (.cells #[.int .i64 a] 3) := ⟨_, rfl⟩
        have HE := hide (show Ext w W by rw [hW]; exact (Ext.one _ _).alloc _)
        have B0 := hide (show W.cell? ⟨w.heap.size, 0, none⟩ = some (.int .i64 s) by rw [hW]; simp)
        have B1 := hide (show W.cell? ⟨w.heap.size, 1, none⟩ = some (.slice A n c) by rw [hW]; simp)
        have B2 := hide (show W.cell? ⟨w.heap.size + 1, 0, none⟩ = some (.int .i64 a) by rw [hW]; simp)
        go_enter Tryd.func18, Tryd.ntmps18
        go_wp2_with (first
          | (rw [← hW]; go_at_call 41; refine (isFixed_any _ _ _ _ xs _ (HI.out.ext HE.out)).mono ?_; rw [decide_eq_true HFX.out]; rintro e w1 ⟨rfl, hE1⟩; have b0 := hE1.get B0.out; have b1 := hE1.get B1.out; have b2 := hE1.get B2.out)
          | (go_at_call 47; refine (has_any _ _ _ _ _ _ hs100).mono ?_; rw [HHA.out]; rintro e w2 ⟨rfl, hE2⟩)
          | fail)
        go_ret
        exact ⟨ret_int HF.out.symm, (HE.out.trans hE1).trans hE2⟩
    · have HFX := hide hf
      clear hs hf
      obtain ⟨W, hW⟩ : ∃ W : World, W = (w.alloc (.cells #[.int .i64 s, .slice A n c] 26)).alloc (.cells #[.int .i64 a] 3) := ⟨_, rfl⟩
      have HE := hide (show Ext w W by rw [hW]; exact (Ext.one _ _).alloc _)
      have B0 := hide (show W.cell? ⟨w.heap.size, 0, none⟩ = some (.int .i64 s) by rw [hW]; simp)
      have B1 := hide (show W.cell? ⟨w.heap.size, 1, none⟩ = some (.slice A n c) by rw [hW]; simp)
      have B2 := hide (show W.cell? ⟨w.heap.size + 1, 0, none⟩ = some (.int .i64 a) by rw [hW]; simp)
      go_enter Tryd.func18, Tryd.ntmps18
      go_wp2_with (first
        | (rw [← hW]; go_at_call 41; refine (isFixed_any _ _ _ _ xs _ (HI.out.ext HE.out)).mono ?_; rw [decide_eq_false HFX.out]; rintro e w1 ⟨rfl, hE1⟩; have b0 := hE1.get B0.out; have b1 := hE1.get B1.out; have b2 := hE1.get B2.out)
        | fail)
      go_ret
      exact ⟨ret_int HF.out.symm, HE.out.trans hE1⟩

end Go.Proofs.YtbaljgdepicigaaDoor
