/-
  Contracts of the functions that draw a bracket.
-/
import Derived.Laws.ShiftsVar
import Derived.Deep.RegionLaw
import Derived.Deep.RegionHeld3
import Derived.Test.YtbaljgdepicigaaDoorBase
import Derived.Test.YtbaljgdepicigaaDoorMgA
import Derived.Test.YtbaljgdepicigaaDoorLib
import Derived.Test.YtbaljgdepicigaaDoorAid
import Derived.Test.YtbaljgdepicigaaDoorStep
import Derived.Test.YtbaljgdepicigaaDoorGrid
import Derived.Test.YtbaljgdepicigaaDoorLibF
import Derived.Test.YtbaljgdepicigaaDoorSeed
import Derived.Test.YtbaljgdepicigaaDoorTour
import Derived.Test.YtbaljgdepicigaaDoorTourB
import Derived.Test.YtbaljgdepicigaaDoorBrack
import Derived.Test.YtbaljgdepicigaaDoorBrackB
import Derived.Test.YtbaljgdepicigaaDoorCurA
import Derived.Test.YtbaljgdepicigaaDoorDrwA
import Derived.Test.YtbaljgdepicigaaDoorDrwB
import Derived.Test.YtbaljgdepicigaaDoorDrwC
import Derived.Test.YtbaljgdepicigaaDoorDrwD
import Derived.Test.YtbaljgdepicigaaDoorDrwE
import Derived.Test.YtbaljgdepicigaaDoorSwsA
namespace Go.Proofs.YtbaljgdepicigaaDoor
open Go.RowKit
set_option linter.unusedVariables false
set_option maxRecDepth 100000

-- spec.l21Draw
theorem Cur.pushed {w0 w w' : World} {p : Nat} {A : Option Addr} {base : Nat} {v : Value} (h : Cur w0 w p) (hg : (w.alloc (.cells #[v] 3)).grownBy w' (A.map (·.block))) (hb : ∀ k, A.map (·.block) = some k → base ≤ k) (hp : p < base) (hw : w0.heap.size ≤ base) : Cur w0 w' p := by
  have hga := grown_trans ((Ext.one w (.cells #[v] 3)).to_grown (A.map (·.block))) hg (.inr (.inl rfl))
  obtain ⟨A9, n9, c9, bs9, i9, hh9, hb9, hB9, hi9, hE9, hp9⟩ := h
  exact ⟨A9, n9, c9, bs9, i9, hh9, (hga.block p (Array.getElem?_eq_some_iff.1 hb9).1 (fun e => by have := hb p e.symm; omega)).trans hb9, hB9, hi9, hE9.grown hga (fun q hq => by have := hb q hq; omega), hp9⟩
set_option maxHeartbeats 2000000 in
theorem l21Draw_any (w0 w : World) (p : Nat) (n : Nat) (A : Option Addr) (c : Nat) (h : Cur w0 w p) (h1 : 1 ≤ n) (h8 : n ≤ 8) :
    Calls Tryd.prog 64 #[.pointer (some ⟨p, 0, none⟩), .agg #[.int .i64 (n : Int), .slice A n c]] w fun e w' => ∃ (br : List Int) (B : Option Addr) (d : Nat), e = .returned (.slice B br.length d) ∧ Ints w' B br.length d br ∧ br.length ≤ 8 ∧ Ext w0 w' := by
  have hpl := h.lt
  have hold := h.old
  obtain ⟨W, hW⟩ : ∃ W : World, W = w.alloc (.cells #[.int .i64 (n : Int), .slice A n c] 26) := ⟨_, rfl⟩
  have HE := hide (show Ext w W by rw [hW]; exact Ext.one _ _)
  have HZ := hide (show W.heap.size = w.heap.size + 1 by rw [hW]; simp)
  have HB := hide (show W.heap[w.heap.size]? = some (.cells #[.int .i64 (n : Int), .slice A n c] 26 (0, 0)) by rw [hW]; exact heap_new w _)
  have HC := hide (h.ext HE.out)
  have HW := hide hW
  have HL6 := hide (show OwI (W.alloc (.cells #[.int .i64 1, .int .i64 2, .int .i64 4, .int .i64 8, .int .i64 4, .int .i64 8] 3)) W.heap.size (some ⟨w.heap.size + 1, 0, none⟩) 6 6 [1, 2, 4, 8, 4, 8] from by
    rw [← HZ.out]
    exact OwI.lit W [1, 2, 4, 8, 4, 8] (base := W.heap.size) (by intro x hx; simp at hx; rcases hx with rfl | rfl | rfl | rfl | rfl | rfl <;> exact ⟨by omega, by omega⟩) (by simp) (Nat.le_refl _))
  have HE1 := hide (Ext.one W (.cells #[.int .i64 1, .int .i64 2, .int .i64 4, .int .i64 8, .int .i64 4, .int .i64 8] 3))
  have hpW : p < W.heap.size := by have := HZ.out; omega
  have hwW : w.heap.size < W.heap.size := by have := HZ.out; omega
  clear h hW
  go_enter Tryd.func64, Tryd.ntmps64
  go_wp2_with fail
  rw [← HW.out]
  refine (l01Pick_any w0 _ p _ 6 6 [1, 2, 4, 8, 4, 8] (HC.out.ext HE1.out) HL6.out.ints (fun k hk => by have e : w.heap.size + 1 = k := Option.some.inj hk; omega) (by omega) (by omega)).mono ?_
  rintro e w1 ⟨x, hx, rfl, hC1, hg1⟩
  have hk : ∃ k : Nat, x = (k : Int) ∧ k ≤ 8 := by
    simp at hx
    exact ⟨x.toNat, by omega, by omega⟩
  obtain ⟨k, rfl, hk8⟩ := hk
  have HC1 := hide hC1
  have hz1 := hg1.size
  simp only [World.size_alloc] at hz1
  have hbk : w1.heap[w.heap.size]? = some (.cells #[.int .i64 (n : Int), .slice A n c] 26 (0, 0)) := (hg1.block w.heap.size (by simp; omega) (fun e => by have := Option.some.inj e; omega)).trans ((HE1.out.block hwW).trans HB.out)
  obtain ⟨c0, _, _, _, _⟩ := two_cells (Ext.refl w1) hbk
  clear hC1 hg1 hx hbk
  go_wp2_with fail
  refine (l02Order_any w0 w1 p n HC1.out h8).mono ?_
  rintro e w3 ⟨o, E, f, hpo, rfl, hoo, hC3, hg3⟩
  have HO3 := hide hoo
  have HC3 := hide (hC3.ext (Ext.one w3 (.cells #[] 3)))
  have HOr := hide (hoo.ext (Ext.one w3 (.cells #[] 3)))
  have HOB := hide (fun q e => hoo.block q e)
  have hz3 := hg3.size
  have HN := hide (ints_lit0 w3 (Nat.le_refl _))
  have hp3 : p < w3.heap.size := by omega
  have hw3 : w0.heap.size ≤ w3.heap.size := by have := hold.1.size; omega
  have HPO := hide hpo
  have hle := hoo.le
  have hmx := hoo.max
  clear hoo hC3 hg3 c0 hpo
  go_wp2
  go_loopw [7, 8] (fun l i wr => ∃ (j cl : Nat) (Al : Option Addr) (br : List Int), j ≤ k ∧ i = .int .i64 (j : Int) ∧ l = .slice Al j cl ∧ w3.heap.size ≤ wr.heap.size ∧ Hid (OwI wr w3.heap.size Al j cl br) ∧ Hid (Ints wr E n f o) ∧ Hid (Cur w0 wr p)) (fun _ i _ => k - (intOf i).toNat)
  case atStart => exact ⟨0, _, _, [], Nat.zero_le _, rfl, rfl, by simp, HN, hide HOr.out.ints, HC3⟩
  case round =>
    obtain ⟨j, cl, Al, br, hj, rfl, rfl, hzr, HO, HI, HCr⟩ := hrel
    by_cases hlt : j < k
    · have hji : (j : Int) < (k : Int) := by omega
      by_cases hjn : j < n
      · have hjni : (j : Int) < (n : Int) := by omega
        have CB := hide (show Calls Tryd.prog 40 #[.pointer (some ⟨p, 0, none⟩), .int .i64 8] wr _ from l01Below_any w0 wr p 8 HCr.out (by omega) (by omega))
        go_wp2_with fail
        refine CB.out.mono ?_
        rintro e w5 ⟨X, rfl, hX, hC5, hg5⟩
        have HC5 := hide hC5
        have HO5 := hide (HO.out.grown hg5 (.inl fun e => by have := (HO.out.block p e).1; omega))
        have HI5 := hide (HI.out.grown hg5 (.inl fun e => by have := (HOB.out p e).1; omega))
        have hz5 := hg5.size
        clear hC5 hg5 CB
        obtain ⟨b, off, y, rfl, hbl, hy, wy, hcy⟩ := HI5.out.get hjn
        clear hy hbl
        by_cases hX0 : 0 < X
        · have hXi : (0 : Int) < (X : Int) := by omega
          go_wp2_with (at_builtin; refine push_ints (base := w3.heap.size) rfl (.tmp 31) (.tmp 36) rfl rfl (HO5.out.ext (Ext.one _ _)) (some ⟨_, 0, none⟩) 1 1 [y] rfl (ints_lit1 _ (base := 0) y wy (Nat.zero_le _)).ints (by omega) (by simp; omega) ?_; intro B5 d5 w6 hb5 hg5 hat5)
          have HI6 := hide ((HI5.out.ext (Ext.one w5 (.cells #[.int .i64 y] 3))).grown hg5 (.inl fun e => by
            have h1 := (HOB.out b rfl).2
            have h2 := (HO.out.block b e.symm).1
            omega))
          have HC6 := hide (HC5.out.pushed hg5 (fun q hq => (HO.out.block q hq).1) hp3 hw3)
          have hz6 := hg5.size
          simp only [World.size_alloc] at hz6
          go_roundw
          case rel => exact ⟨j + 1, d5, B5, br ++ [y], by omega, by go_num, rfl, by omega, hide hb5, HI6, HC6⟩
          case measure => (simp [intOf] <;> omega)
        · have hXi : ¬ (0 : Int) < (X : Int) := by omega
          go_wp2_with (at_builtin; refine push_ints (base := w3.heap.size) rfl (.tmp 38) (.tmp 39) rfl rfl (HO5.out.ext (Ext.one _ _)) (some ⟨_, 0, none⟩) 1 1 [-1] rfl (ints_lit1 _ (base := 0) (-1) ⟨by omega, by omega⟩ (Nat.zero_le _)).ints (by omega) (by simp; omega) ?_; intro B5 d5 w6 hb5 hg5 hat5)
          have HI6 := hide ((HI5.out.ext (Ext.one w5 (.cells #[.int .i64 (-1)] 3))).grown hg5 (.inl fun e => by
            have h1 := (HOB.out b rfl).2
            have h2 := (HO.out.block b e.symm).1
            omega))
          have HC6 := hide (HC5.out.pushed hg5 (fun q hq => (HO.out.block q hq).1) hp3 hw3)
          have hz6 := hg5.size
          simp only [World.size_alloc] at hz6
          go_roundw
          case rel => exact ⟨j + 1, d5, B5, br ++ [-1], by omega, by go_num, rfl, by omega, hide hb5, HI6, HC6⟩
          case measure => (simp [intOf] <;> omega)
      · have hjni : ¬ (j : Int) < (n : Int) := by omega
        have HO5 := hide HO.out
        go_wp2_with (at_builtin; refine push_ints (base := w3.heap.size) rfl (.tmp 38) (.tmp 39) rfl rfl (HO5.out.ext (Ext.one _ _)) (some ⟨_, 0, none⟩) 1 1 [-1] rfl (ints_lit1 _ (base := 0) (-1) ⟨by omega, by omega⟩ (Nat.zero_le _)).ints (by omega) (by simp; omega) ?_; intro B5 d5 w6 hb5 hg5 hat5)
        have HI6 := hide ((HI.out.ext (Ext.one wr (.cells #[.int .i64 (-1)] 3))).grown hg5 (by
          cases hE : E with
          | none => exact .inr rfl
          | some a =>
            refine .inl fun e => ?_
            have h1 := (HOB.out a.block (by rw [hE]; rfl)).2
            have h2 := (HO.out.block a.block (by rw [← e]; simp)).1
            omega))
        have HC6 := hide (HCr.out.pushed hg5 (fun q hq => (HO.out.block q hq).1) hp3 hw3)
        have hz6 := hg5.size
        simp only [World.size_alloc] at hz6
        go_roundw
        case rel => exact ⟨j + 1, d5, B5, br ++ [-1], by omega, by go_num, rfl, by omega, hide hb5, HI6, HC6⟩
        case measure => (simp [intOf] <;> omega)
    · have hjk : j = k := by omega
      have HLN := hide HO.out.len
      go_wp2
      go_ret
      exact ⟨br, Al, cl, by rw [HLN.out]; rfl, by rw [HLN.out]; exact HO.out.ints, by rw [HLN.out]; omega, HCr.out.old.1⟩
-- spec.MakeBracket
theorem bracket_zero {n : Nat} {xs : List Int} (ht : tourOk (n : Int) xs) : bracketOk (n : Int) xs [0] := by
  have := tourOk_size ht
  exact ⟨ht, .inl rfl, fun x hx => by simp at hx; omega, by simp [plrs], by simp [plrs]⟩
theorem makeBracket_any (A0 : Option Addr) (n0 c0 : Nat) (bs : List Int) (m n : Nat) (A : Option Addr) (c : Nat) (xs : List Int) (w : World) (hB : Bts w A0 n0 c0 bs) (hm : m ≤ 1000) (ht : tourOk (n : Int) xs) (h : Ints w A n c xs) :
    Calls Tryd.prog 21 #[.slice A0 n0 c0, .int .i64 (m : Int), .agg #[.int .i64 (n : Int), .slice A n c]] w fun e w' => ∃ (br : List Int) (B : Option Addr) (d : Nat), e = .returned (.slice B br.length d) ∧ Ints w' B br.length d br ∧ bracketOk (n : Int) xs br ∧ Ext w w' := by
  have hs := tourOk_size ht
  have hl := h.len
  have HT := hide ht
  have HI := hide h
  have HBT := hide hB
  obtain ⟨W, hW⟩ : ∃ W : World, W = w.alloc (.cells #[.int .i64 (n : Int), .slice A n c] 26) := ⟨_, rfl⟩
  have HE := hide (show Ext w W by rw [hW]; exact Ext.one _ _)
  have b0 : W.cell? ⟨w.heap.size, 0, none⟩ = some (.int .i64 (n : Int)) := by rw [hW]; simp
  have b1 : W.cell? ⟨w.heap.size, 1, none⟩ = some (.slice A n c) := by rw [hW]; simp
  have HW := hide hW
  have KS := hide (show ∀ w', Ext W w' → (Ext W w' ∧ w'.cell? ⟨w.heap.size, 0, none⟩ = some (.int .i64 (n : Int)) ∧ w'.cell? ⟨w.heap.size, 1, none⟩ = some (.slice A n c)) from fun w' hh => ⟨hh, hh.get b0, hh.get b1⟩)
  have h1 : 1 ≤ n := by omega
  have h8 : n ≤ 8 := by omega
  clear h hW b0 b1 ht hs hl hB
  go_enter Tryd.func21, Tryd.ntmps21
  go_wp2
  rw [← HW.out]
  go_region_held3 (fun w' => Ext W w' ∧ w'.cell? ⟨w.heap.size, 0, none⟩ = some (.int .i64 (n : Int)) ∧ w'.cell? ⟨w.heap.size, 1, none⟩ = some (.slice A n c))
    (first | exact KS.out _ (Ext.refl _) | exact KS.out _ (Ext.refl _).drew | exact KS.out _ ((Ext.refl _).drew.trans hC1.old.1) | exact KS.out _ ((Ext.refl _).drew.trans hE2))
    (first | (go_at_call 37; refine (l32New_any A0 n0 c0 bs m _ (HBT.out.ext HE.out.drew) hm).mono ?_; rintro e w1 ⟨p, rfl, hC1⟩) | (go_at_call 64; refine (l21Draw_any _ _ p n A c hC1 h1 h8).mono ?_; rintro e w2 ⟨br, B, d, rfl, hI2, hl8, hE2⟩))
  have HE2 := hide ((Ext.refl W).drew.trans hE2)
  have HI2 := hide hI2
  obtain ⟨_, c20, c21⟩ := KS.out _ HE2.out
  clear hE2 hI2 hC1
  have CB := hide (sBracketOk_any (n : Int) A n c xs B br.length d br w2 (HI.out.ext (HE.out.trans HE2.out)) HI2.out)
  by_cases hbo : bracketOk (n : Int) xs br
  · rw [decide_eq_true hbo] at CB
    have HBO := hide hbo
    clear hbo
    go_wp2_with fail
    refine CB.out.mono ?_
    rintro e w3 ⟨rfl, hE3⟩
    go_wp2
    go_ret
    exact ⟨br, B, d, rfl, HI2.out.ext hE3, HBO.out, HE.out.trans (HE2.out.trans hE3)⟩
  · rw [decide_eq_false hbo] at CB
    clear hbo
    go_wp2_with fail
    refine CB.out.mono ?_
    rintro e w3 ⟨rfl, hE3⟩
    have HZ := hide (ints_lit1 w3 (base := 0) 0 ⟨by omega, by omega⟩ (Nat.zero_le _)).ints
    go_wp2
    go_ret
    exact ⟨[0], _, 1, rfl, HZ.out, bracket_zero HT.out, HE.out.trans (HE2.out.trans (hE3.trans (Ext.one _ _)))⟩

end Go.Proofs.YtbaljgdepicigaaDoor
