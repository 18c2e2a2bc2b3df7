/-
  Contracts of the functions that ask whether a tour is transitive, and what a first player costs.
-/
import Derived.Laws.ShiftsVar
import Derived.Deep.QuietTactic
import Derived.Great.Walk
import Derived.Deep.RegionLaw
import Derived.Deep.RegionHeld3
import Derived.Test.YtbaljgdepicigaaDoorBase
import Derived.Test.YtbaljgdepicigaaDoorMgA
import Derived.Test.YtbaljgdepicigaaDoorLib
import Derived.Test.YtbaljgdepicigaaDoorAid
import Derived.Test.YtbaljgdepicigaaDoorStep
import Derived.Test.YtbaljgdepicigaaDoorGrid
import Derived.Test.YtbaljgdepicigaaDoorLibF
import Derived.Test.YtbaljgdepicigaaDoorMgB
import Derived.Test.YtbaljgdepicigaaDoorMathBo
import Derived.Test.YtbaljgdepicigaaDoorPop
import Derived.Test.YtbaljgdepicigaaDoorDblB
import Derived.Test.YtbaljgdepicigaaDoorDblD
import Derived.Test.YtbaljgdepicigaaDoorTour
import Derived.Test.YtbaljgdepicigaaDoorWin
import Derived.Test.YtbaljgdepicigaaDoorWinE
import Derived.Test.YtbaljgdepicigaaDoorSortT
import Derived.Test.YtbaljgdepicigaaDoorDrwA
import Derived.Test.YtbaljgdepicigaaDoorTrnA
import Derived.Test.YtbaljgdepicigaaDoorTrnB
namespace Go.Proofs.YtbaljgdepicigaaDoor
open Go.RowKit
set_option linter.unusedVariables false
set_option maxRecDepth 100000

-- impl.IsTransitive
theorem iTransitive_any (n : Nat) (A : Option Addr) (c : Nat) (xs : List Int) (w : World) (ht : tourOk (n : Int) xs) (h : Ints w A n c xs) :
    Calls Tryd.prog 33 #[.agg #[.int .i64 (n : Int), .slice A n c]] w fun e w' => e = .returned (.bool (@decide (∃ o, noRev n xs o) (Classical.propDecidable _))) ∧ Ext w w' := by
  have HI := hide h
  have HT := hide ht
  obtain ⟨W, hW⟩ : ∃ W : World, W = w.alloc (.cells #[.int .i64 (n : Int), .slice A n c] 26) := ⟨_, rfl⟩
  have HE := hide (show Ext w W by rw [hW]; exact Ext.one _ _)
  have b0 : W.cell? ⟨w.heap.size, 0, none⟩ = some (.int .i64 (n : Int)) := by rw [hW]; simp
  have b1 : W.cell? ⟨w.heap.size, 1, none⟩ = some (.slice A n c) := by rw [hW]; simp
  have HW := hide hW
  have KS := hide (show ∀ w', Ext W w' → (Ext W w' ∧ w'.cell? ⟨w.heap.size, 0, none⟩ = some (.int .i64 (n : Int)) ∧ w'.cell? ⟨w.heap.size, 1, none⟩ = some (.slice A n c)) from fun w' hh => ⟨hh, hh.get b0, hh.get b1⟩)
  clear h hW b0 b1 ht
  go_enter Tryd.func33, Tryd.ntmps33
  go_wp2
  rw [← HW.out]
  go_region_held3 (fun w' => Ext W w' ∧ w'.cell? ⟨w.heap.size, 0, none⟩ = some (.int .i64 (n : Int)) ∧ w'.cell? ⟨w.heap.size, 1, none⟩ = some (.slice A n c))
    (first | exact KS.out _ (Ext.refl _) | exact KS.out _ (Ext.refl _).drew | exact KS.out _ ((Ext.refl _).drew.trans hE1) | exact KS.out _ (((Ext.refl _).drew.trans hE1).trans hE2))
    (first | (go_at_call 43; refine (iTourOk_any _ _ _ _ xs _ (HI.out.ext (HE.out.drew))).mono ?_; rw [decide_eq_true HT.out]; rintro e w1 ⟨rfl, hE1⟩) | (go_at_call 74; refine (parts_any n A c xs _ HT.out (HI.out.ext (HE.out.trans ((Ext.refl _).drew.trans hE1)))).mono ?_; rintro e w2 ⟨L, co, Ao, rfl, hL1, hL2, hE2⟩))
  have HE2 := hide (((Ext.refl _).drew.trans hE1).trans hE2)
  have H1 := hide hL2
  clear hE1 hE2 hL2
  by_cases hb : L = n
  · have hv := @decide_eq_true _ (Classical.propDecidable _) (H1.out.1 hb)
    subst hb
    go_wp2
    go_ret
    exact ⟨by first | rfl | (rw [hv]; rfl) | (rw [hv]; simp; done) | (rw [hv]; simp; omega) | (simp; done) | (simp; omega), HE.out.trans HE2.out⟩
  · have hv := @decide_eq_false _ (Classical.propDecidable _) (fun h => hb (H1.out.2 h))
    have hbi : ((L : Int) == (n : Int)) = false := by simp; omega
    go_wp2
    go_ret
    exact ⟨by first | rfl | (rw [hv]; rfl) | (rw [hv]; simp; done) | (rw [hv]; simp; omega) | (simp; done) | (simp; omega), HE.out.trans HE2.out⟩
-- (impl.Tour).losses
theorem loss_val {n a r : Nat} (hn : n ≤ 8) (ha : a < n) (hr : r + 2 ^ a < 2 ^ n) : wrap64 (wrap64 (wrap64 (wrap64 (2 ^ n) - 1) - (r : Int)) - wrap64 (2 ^ a)) = ((2 ^ n - 1 - r - 2 ^ a : Nat) : Int) := by
  have h1 := shl_one n hn
  have h2 := (shl_natD a (by omega)).1
  have h3 := pow8 hn
  have h4 : ((2 ^ n : Nat) : Int) = (2 : Int) ^ n := by simp
  rw [h1, h2, ← h4]
  clear h1 h2 h4
  generalize 2 ^ n = P at *
  generalize 2 ^ a = Q at *
  have e1 : wrap64 ((P : Int) - 1) = (P : Int) - 1 := by unfold wrap64; omega
  rw [e1]
  have e2 : wrap64 ((P : Int) - 1 - (r : Int)) = (P : Int) - 1 - (r : Int) := by unfold wrap64; omega
  rw [e2]
  have e3 : wrap64 ((P : Int) - 1 - (r : Int) - (Q : Int)) = (P : Int) - 1 - (r : Int) - (Q : Int) := by unfold wrap64; omega
  rw [e3]
  omega
theorem row_self {n : Nat} {xs : List Int} (ht : tourOk (n : Int) xs) {a : Nat} (ha : a < n) : rowN xs (a : Int) + 2 ^ a < 2 ^ n := by
  have hl : xs.length = n := by have := tourOk_size ht; omega
  have hself : (rowN xs (a : Int)).testBit a = false := by
    cases e : (rowN xs (a : Int)).testBit a with
    | false => rfl
    | true => exact absurd ((bts_row ht (by omega)).2 e) (bts_self ht (by omega))
  have hb : (rowN xs (a : Int) ||| 2 ^ a) < 2 ^ n := lt_of_bits fun b hb => by
    rw [Nat.testBit_or, Bool.or_eq_true, Nat.testBit_two_pow] at hb
    rcases hb with hb | hb
    · exact row_bit ht ha hb
    · have := of_decide_eq_true hb; omega
  have hr := row_lt ht ha
  have key : ∀ m : Nat, m < 256 → ∀ b : Nat, b < 8 → m.testBit b = false → m ||| 2 ^ b = m + 2 ^ b := by decide +kernel
  have hn8 : n ≤ 8 := by have := tourOk_size ht; omega
  rw [key _ (by have := pow8 hn8; omega) a (by omega) hself] at hb
  exact hb
theorem losses_any (n : Nat) (A : Option Addr) (c : Nat) (xs : List Int) (a : Nat) (w : World) (ht : tourOk (n : Int) xs) (h : Ints w A n c xs) (ha : a < n) :
    Calls Tryd.prog 102 #[.agg #[.int .i64 (n : Int), .slice A n c], .int .i64 (a : Int)] w fun e w' => e = .returned (.int .i64 ((2 ^ n - 1 - rowN xs (a : Int) - 2 ^ a : Nat) : Int)) ∧ Ext w w' := by
  have hs := tourOk_size ht
  have hl := h.len
  have hn8 : n ≤ 8 := by omega
  have HV := hide (loss_val hn8 ha (row_self ht ha))
  obtain ⟨b2, o2, y, rfl, hb2, hy, wy, hc2⟩ := h.get ha
  have hyb := tourOk_row ht y (List.mem_of_getElem? hy)
  obtain ⟨r, rfl⟩ : ∃ r : Nat, y = (r : Int) := ⟨y.toNat, by omega⟩
  have HRW : rowN xs (a : Int) = r := by simp [rowN, List.getD, hy]
  rw [HRW] at HV ⊢
  have hai : (a : Int) < (n : Int) := by omega
  have ha64 : a < 64 := by omega
  have hn64 : n < 64 := by omega
  obtain ⟨W, hW⟩ : ∃ W : World, W = w.alloc (.cells #[.int .i64 (n : Int), .slice (some ⟨b2, o2, none⟩) n c] 26) := ⟨_, rfl⟩
  have HE := hide (show Ext w W by rw [hW]; exact Ext.one _ _)
  have b0 : W.cell? ⟨w.heap.size, 0, none⟩ = some (.int .i64 (n : Int)) := by rw [hW]; simp
  have b1 : W.cell? ⟨w.heap.size, 1, none⟩ = some (.slice (some ⟨b2, o2, none⟩) n c) := by rw [hW]; simp
  have b3 := HE.out.get hc2
  have HW := hide hW
  clear h ht hs hl hy hW hc2 wy hb2 HRW
  go_enter Tryd.func102, Tryd.ntmps102
  go_wp2
  rw [← HW.out]
  go_quiet (fail)
  go_wp2
  go_ret
  exact ⟨by first | exact ret_int HV.out | (rw [← HV.out]; rfl), HE.out.trans ((Ext.refl _).drewN _)⟩
-- (impl.Tour).firstCost
theorem cost_le (xs : List Int) (n a S : Nat) : costT xs n a S ≤ 8 := pc_le8 _
theorem firstCost_any (n : Nat) (A : Option Addr) (c : Nat) (xs : List Int) (a S : Nat) (w : World) (ht : tourOk (n : Int) xs) (h : Ints w A n c xs) (ha : a < n) (hS : S < 256) :
    Calls Tryd.prog 76 #[.agg #[.int .i64 (n : Int), .slice A n c], .int .i64 (a : Int), .int .i64 (S : Int)] w fun e w' => e = .returned (.int .i64 (costT xs n a S : Int)) ∧ Ext w w' := by
  have hs := tourOk_size ht
  have hl := h.len
  have HT := hide ht
  have HI := hide h
  have h8 := pow8 (show n ≤ 8 by omega)
  obtain ⟨lo, hlo⟩ : ∃ lo, 2 ^ n - 1 - rowN xs (a : Int) - 2 ^ a = lo := ⟨_, rfl⟩
  have hlo8 : lo < 256 := by
    have h1 : lo ≤ 2 ^ n - 1 := by rw [← hlo]; exact Nat.le_trans (Nat.sub_le _ _) (Nat.sub_le _ _)
    have h2 := Nat.two_pow_pos n
    omega
  obtain ⟨W, hW⟩ : ∃ W : World, W = w.alloc (.cells #[.int .i64 (n : Int), .slice A n c] 26) := ⟨_, rfl⟩
  have HE := hide (show Ext w W by rw [hW]; exact Ext.one _ _)
  have b0 : W.cell? ⟨w.heap.size, 0, none⟩ = some (.int .i64 (n : Int)) := by rw [hW]; simp
  have b1 : W.cell? ⟨w.heap.size, 1, none⟩ = some (.slice A n c) := by rw [hW]; simp
  have HW := hide hW
  have CL := hide (losses_any n A c xs a W HT.out (HI.out.ext HE.out) ha)
  rw [hlo] at CL
  have hand := bits_and_i64 S lo (by omega) (by omega)
  have HV := hide (show costT xs n a S = pc (S &&& lo) by unfold costT; rw [hlo])
  have hsl : S &&& lo < 256 := Nat.lt_of_le_of_lt Nat.and_le_left hS
  rw [HV.out]
  generalize S &&& lo = q at *
  have hq : (0 : Int) ≤ (q : Int) ∧ (q : Int) < 256 := by omega
  clear h ht hs hl hW hlo
  go_enter Tryd.func76, Tryd.ntmps76
  go_wp2_with fail
  rw [← HW.out]
  refine CL.out.mono ?_
  rintro e w1 ⟨rfl, hE1⟩
  go_wp2_with (go_at_call 46; refine (OnesCount_small q hsl _).mono ?_; rintro e w' ⟨rfl, rfl⟩)
  go_ret
  exact ⟨rfl, HE.out.trans hE1⟩

end Go.Proofs.YtbaljgdepicigaaDoor
