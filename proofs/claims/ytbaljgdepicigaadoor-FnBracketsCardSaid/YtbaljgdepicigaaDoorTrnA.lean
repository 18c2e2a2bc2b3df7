/-
  Contracts of the functions that ask who reaches whom: is a tour transitive?
-/
import Derived.Laws.ShiftsVar
import Derived.Deep.QuietTactic
import Derived.Great.Walk
import Derived.Deep.RegionLaw
import Derived.Deep.RegionHeld3
import Derived.Test.YtbaljgdepicigaaDoorBase
import Derived.Test.YtbaljgdepicigaaDoorMgA
import Derived.Test.YtbaljgdepicigaaDoorLib
import Derived.Test.YtbaljgdepicigaaDoorAid
import Derived.Test.YtbaljgdepicigaaDoorStep
import Derived.Test.YtbaljgdepicigaaDoorGrid
import Derived.Test.YtbaljgdepicigaaDoorLibF
import Derived.Test.YtbaljgdepicigaaDoorMgB
import Derived.Test.YtbaljgdepicigaaDoorMathBo
import Derived.Test.YtbaljgdepicigaaDoorPop
import Derived.Test.YtbaljgdepicigaaDoorDblB
import Derived.Test.YtbaljgdepicigaaDoorDblD
import Derived.Test.YtbaljgdepicigaaDoorTour
import Derived.Test.YtbaljgdepicigaaDoorWin
import Derived.Test.YtbaljgdepicigaaDoorWinE
import Derived.Test.YtbaljgdepicigaaDoorSortT
import Derived.Test.YtbaljgdepicigaaDoorDrwA
namespace Go.Proofs.YtbaljgdepicigaaDoor
open Go.RowKit
set_option linter.unusedVariables false
set_option maxRecDepth 100000

-- (impl.Tour).byScore
theorem byScore_any (n : Nat) (A : Option Addr) (c : Nat) (xs : List Int) (w : World) (ht : tourOk (n : Int) xs) (h : Ints w A n c xs) :
    Calls Tryd.prog 99 #[.agg #[.int .i64 (n : Int), .slice A n c]] w (RetI w (orderO (scS xs) n)) := by
  have HI := hide h
  have HT := hide ht
  have hs := tourOk_size ht
  have hl := h.len
  have h0 : 1 ≤ n := by omega
  have hn8 : n ≤ 8 := by omega
  have hmf : ∀ (fn : Fn) (first cap : Array Value) (w : World), (Instr.makeFunc fn first cap).run Tryd.prog w = .ok (.func fn first cap) w := fun _ _ _ _ => rfl
  obtain ⟨W, hW⟩ : ∃ W : World, W = w.alloc (.cells #[.int .i64 (n : Int), .slice A n c] 26) := ⟨_, rfl⟩
  have HE := hide (show Ext w W by rw [hW]; exact Ext.one _ _)
  have B0 := hide (show W.cell? ⟨w.heap.size, 0, none⟩ = some (.int .i64 (n : Int)) by rw [hW]; simp)
  have B1 := hide (show W.cell? ⟨w.heap.size, 1, none⟩ = some (.slice A n c) by rw [hW]; simp)
  have HW := hide hW
  have b0 := B0.out
  clear h hW ht hs hl
  go_enter Tryd.func99, Tryd.ntmps99
  go_wp2_with fail
  rw [← HW.out]
  refine (indices_any n _ (by omega)).mono ?_
  rintro e w1 ⟨B, d, rfl, hoB, hE1⟩
  rw [upto_len] at hoB ⊢
  have CS := hide (sortStableT_any (base := W.heap.size) B n d (scS xs) w.heap.size W w1 h0 hn8 (fun w' i k hE hi hk => byScoreC_any n A c xs w.heap.size i k w' HT.out (HI.out.ext (HE.out.trans hE)) (hE.get B0.out) (hE.get B1.out) hi hk) hE1 (Nat.le_refl _) hoB)
  have HB := hide (fun q e => (hoB.block q e).1)
  have HE1 := hide hE1
  clear hoB hE1 b0
  go_wp2_with (go_at_call 104; refine CS.out.mono ?_; rintro e w2 ⟨rfl, hO, hg⟩)
  go_ret
  exact RetI.mk rfl (hO.mono HE.out.size) (HE.out.trans (HE1.out.grown hg HB.out))
-- (impl.Tour).reach
set_option maxHeartbeats 1000000 in
theorem reach_any (n : Nat) (A : Option Addr) (c : Nat) (xs : List Int) (a : Nat) (w : World) (ht : tourOk (n : Int) xs) (h : Ints w A n c xs) (ha : a < n) :
    Calls Tryd.prog 100 #[.agg #[.int .i64 (n : Int), .slice A n c], .int .i64 (a : Int)] w fun e w' => ∃ R : Nat, e = .returned (.int .i64 (R : Int)) ∧ IsReach n xs a R ∧ Ext w w' := by
  have HI := hide h
  have HT := hide ht
  have hs := tourOk_size ht
  have hl := h.len
  have hn8 : n ≤ 8 := by omega
  have HSH := hide (shl_natD a (by omega)).1
  have HST := hide (reach_start xs ha)
  have ha64 : a < 64 := by omega
  have H8 := hide (pow8 hn8)
  obtain ⟨W, hW⟩ : ∃ W : World, W = w.alloc (.cells #[.int .i64 (n : Int), .slice A n c] 26) := ⟨_, rfl⟩
  have HE := hide (show Ext w W by rw [hW]; exact Ext.one _ _)
  have B1 := hide (show W.cell? ⟨w.heap.size, 1, none⟩ = some (.slice A n c) by rw [hW]; simp)
  have HW := hide hW
  clear h hW ht hs hl
  go_enter Tryd.func100, Tryd.ntmps100
  go_wp2
  rw [← HW.out, HSH.out]
  go_loopw [5] (fun s wr => ∃ S : Nat, s = .int .i64 (S : Int) ∧ Hid (S < 2 ^ n ∧ S.testBit a = true ∧ ∀ C, C.testBit a = true → ClosedT n xs C → ∀ b, S.testBit b = true → C.testBit b = true) ∧ Hid (Ext W wr)) (fun s _ => 256 - (intOf s).toNat)
  case atStart => exact ⟨2 ^ a, rfl, HST, hide (Ext.refl _)⟩
  case round =>
    obtain ⟨S, rfl, HS, HER⟩ := hrel
    have hS : S < 256 := by have := HS.out.1; have := H8.out; omega
    have HRS := hide (reach_step HT.out HS.out.1 hn8 HS.out.2.1 HS.out.2.2)
    have HON := hide (fun j => orR_lt HT.out HS.out.1 j)
    go_wp2_with fail
    refine (membersOf_small S hS wr).mono ?_
    rintro e w2 ⟨M, mc, rfl, hoM, hE2⟩
    have HM := hide hoM.ints
    have HE2 := hide (HER.out.trans hE2)
    obtain ⟨m, hm⟩ : ∃ m, (mems S).length = m := ⟨_, rfl⟩
    rw [hm] at HM ⊢
    have HML := hide hm
    have hm8 : m ≤ 8 := by have := memTo_len S 8; have : (mems S).length ≤ 8 := this; omega
    clear hoM hE2 hm
    obtain ⟨w3, rfl⟩ : ∃ w3 : World, w3 = w2 := ⟨_, rfl⟩
    have c1 := HE2.out.get B1.out
    go_wp2
    go_loopw [6, 15] (fun o i wr => ∃ j : Nat, j ≤ m ∧ i = .int .i64 (j : Int) ∧ o = .int .i64 (orR xs S ((mems S).take j) : Int) ∧ w3 = wr) (fun _ i _ => m - (intOf i).toNat)
    case atStart => exact ⟨0, Nat.zero_le _, rfl, rfl, rfl⟩
    case round =>
      obtain ⟨j, hj, rfl, rfl, rfl⟩ := hrel
      have hob := HON.out j
      have h8 := H8.out
      by_cases hjl : j < m
      · have hji : (j : Int) < (m : Int) := by omega
        obtain ⟨b, off, y, rfl, hbl, hy, wy, hcy⟩ := HM.out.get hjl
        obtain ⟨x, hx8, hxb, rfl⟩ := mem_mems.1 (List.mem_of_getElem? hy)
        have hxn : x < n := bit_in HS.out.1 hxb
        obtain ⟨b2, o2, r', rfl, hb2, hr', wr', hcr⟩ := (HI.out.ext (HE.out.trans HE2.out)).get hxn
        have hrb := tourOk_row HT.out r' (List.mem_of_getElem? hr')
        obtain ⟨r, rfl⟩ : ∃ r : Nat, r' = (r : Int) := ⟨r'.toNat, by omega⟩
        have HRW := hide (show rowN xs (x : Int) = r by simp [rowN, List.getD, hr'])
        have HSN := hide (orR_snoc xs S hy)
        obtain ⟨o, ho⟩ : ∃ o, orR xs S ((mems S).take j) = o := ⟨_, rfl⟩
        rw [ho] at hob HSN ⊢
        have hor := or_i64 o r (by omega) (by omega)
        have hxni : (x : Int) < (n : Int) := by omega
        clear hy hr' ho wy wr' hbl hb2 hxb
        go_wp2
        go_roundw
        case rel => exact ⟨j + 1, by omega, by go_num, by rw [HSN.out, HRW.out], trivial⟩
        case measure => (simp [intOf] <;> omega)
      · have hjm : j = m := by omega
        have hji : ¬ (j : Int) < (m : Int) := by omega
        have HTK := hide (show (mems S).take j = mems S from List.take_of_length_le (by rw [HML.out]; omega))
        rw [HTK.out] at hob ⊢
        by_cases he : orR xs S (mems S) = S
        · have HR := hide (HRS.out.1 he)
          rw [he]
          clear he
          go_wp2
          go_ret
          exact ⟨S, rfl, HR.out, HE.out.trans HE2.out⟩
        · have HN := hide (HRS.out.2 he)
          have HNL := hide hob
          have hlt := HN.out.1
          generalize orR xs S (mems S) = N at *
          have hne : ((N : Int) == (S : Int)) = false := by simp; omega
          clear he
          go_wp2
          go_roundw
          case rel => exact ⟨N, rfl, hide (And.intro HNL.out HN.out.2)⟩
          case measure => (simp [intOf] <;> omega)

end Go.Proofs.YtbaljgdepicigaaDoor
