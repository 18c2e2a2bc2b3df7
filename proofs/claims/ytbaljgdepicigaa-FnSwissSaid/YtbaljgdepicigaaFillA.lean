/-
  The program's iterator over pairings: one list that changes, and a closure that calls itself.
-/
import Derived.RangeFuncIn
import Derived.RangeFuncRecord
import Derived.RangeFuncLeaves
import Derived.RangeFuncSeq
import Derived.TacticsInMore
import Derived.LoopIn
import Derived.BigFrameIn
import Derived.OwnWalkIn
import Derived.BigRegionIn
import Derived.Laws.CopyOwn
import Derived.Deep.RegionLaw
import Derived.Laws.ShiftsVar
import Derived.Test.YtbaljgdepicigaaBase
import Derived.Test.YtbaljgdepicigaaMathA
import Derived.Test.YtbaljgdepicigaaMathD
import Derived.Test.YtbaljgdepicigaaLib
import Derived.Test.YtbaljgdepicigaaAid
import Derived.Test.YtbaljgdepicigaaStep
import Derived.Test.YtbaljgdepicigaaGrid
import Derived.Test.YtbaljgdepicigaaLibF
import Derived.Test.YtbaljgdepicigaaMathB
import Derived.Test.YtbaljgdepicigaaMathU
import Derived.Test.YtbaljgdepicigaaMathS
import Derived.Test.YtbaljgdepicigaaMathP
import Derived.Test.YtbaljgdepicigaaSwiss
import Derived.Test.YtbaljgdepicigaaSwissB
import Derived.Test.YtbaljgdepicigaaRangeA
namespace Go.Proofs.Ytbaljgdepicigaa
open Go.RowKit
set_option linter.unusedVariables false
set_option maxRecDepth 100000

-- math/bits.Mul
theorem Mul64_one (n : Nat) (hn : n = 2 ∨ n = 4 ∨ n = 6 ∨ n = 8) (w : World) :
    Calls Try.prog 199 #[.int .u64 1, .int .u64 (n : Int)] w fun e w' => e = .returned (.tuple #[.int .u64 0, .int .u64 (n : Int)]) ∧ w = w' := by
  rcases hn with rfl | rfl | rfl | rfl <;>
  · go_enter Try.func199, Try.ntmps199
    go_wp2
    go_ret2
    exact ⟨by simp <;> decide, rfl⟩
-- math/bits.Mul whole
theorem Mul_one (n : Nat) (hn : n = 2 ∨ n = 4 ∨ n = 6 ∨ n = 8) (w : World) :
    Calls Try.prog 188 #[.int .u64 1, .int .u64 (n : Int)] w fun e w' => e = .returned (.tuple #[.int .u64 0, .int .u64 (n : Int)]) ∧ w = w' := by
  have C := hide (Mul64_one n hn)
  clear hn
  go_enter Try.func188, Try.ntmps188
  go_wp2_with (go_at_call 199; refine (C.out _).mono ?_; rintro e w' ⟨rfl, rfl⟩)
  go_ret2
  exact ⟨rfl, rfl⟩
-- slices.Repeat
theorem splice_rep (k n : Nat) (h1 : 1 ≤ k) (h2 : k ≤ n) : splice ((List.replicate k (-1 : Int) ++ List.replicate (n - k) 0).map (Value.int .i64)) k ((List.replicate (min k (n - k)) (-1 : Int)).map (Value.int .i64)) =
    ((List.replicate (k + min k (n - k)) (-1 : Int) ++ List.replicate (n - (k + min k (n - k))) 0).map (Value.int .i64)) := by
  unfold splice
  rw [← List.map_take, ← List.map_drop, ← List.map_append, ← List.map_append]
  congr 1
  simp only [List.length_map, List.length_replicate]
  rw [List.take_append_of_le_length (by simp), List.take_of_length_le (by simp), List.drop_append, List.length_replicate, List.drop_eq_nil_of_le (by simp), List.nil_append, List.drop_replicate, ← List.append_assoc, List.replicate_append_replicate]
  congr 2
  omega
theorem repeat_any (n : Nat) (hn : n = 2 ∨ n = 4 ∨ n = 6 ∨ n = 8) (A : Option Addr) (c : Nat) (w : World) (h : Ints w A 1 c [-1]) :
    Calls Try.prog 151 #[.slice A 1 c, .int .i64 (n : Int)] w fun e w' => ∃ q, e = .returned (.slice (some ⟨q, 0, none⟩) n n) ∧ OwI w' w.heap.size (some ⟨q, 0, none⟩) n n (List.replicate n (-1)) ∧ Ext w w' := by
  have C := hide (Mul_one n hn)
  have hn8 : n ≤ 8 := by omega
  have hn2 : 2 ≤ n := by omega
  have hmk := run_make_ints n (by omega)
  have hmx := h.max
  have hle := h.le
  have HI := hide h
  clear h hn
  obtain ⟨ba, oa, va, rfl, hba, hva, wva, hca⟩ := HI.out.get (show 0 < 1 by omega)
  obtain rfl : va = -1 := by simpa using hva.symm
  clear hva
  go_enter Try.func151, Try.ntmps151
  have hc0 : [Value.int .i64 (-1)].length = Nat.min 1 n := by show 1 = min 1 n; omega
  have hca' : ∀ j v, [Value.int .i64 (-1)][j]? = some v → (w.alloc (.cells (zeroRow n) 3)).cell? ((⟨ba, oa, none⟩ : Addr).add j) = some v := fun j v hj => by
    cases j with
    | zero => cases hj; simpa [Addr.add_lit] using (Ext.one w (.cells (zeroRow n) 3)).get hca
    | succ j => simp at hj
  have hz0 : (w.alloc (.cells (zeroRow n) 3)).heap[w.heap.size]? = some (.cells ((List.replicate n (0 : Int)).map (Value.int .i64)).toArray 3 (0, 0)) := by
    rw [show ((List.replicate n (0 : Int)).map (Value.int .i64)).toArray = zeroRow n by simp [zeroRow]]
    exact heap_alloc_new w _
  have HCA := hide hca'
  have HZ0 := hide hz0
  have HC0 := hide hc0
  clear hca' hz0 hc0
  go_wp2_with (first
    | (go_at_call 188; refine (C.out _).mono ?_; rintro e w' ⟨rfl, rfl⟩)
    | (refine wpList_copy_splice rfl (.tmp 31) (.tmp 32) 23 23 rfl 3 Try.underlying23 size_int (some ⟨w.heap.size, 0, none⟩) (some ⟨ba, oa, none⟩) n n 1 c rfl rfl w.heap.size 0 ((List.replicate n (0 : Int)).map (Value.int .i64)) 3 HZ0.out [Value.int .i64 (-1)] HC0.out (fun _ => ⟨rfl, _, rfl, HCA.out⟩) (by simp; omega) (by simp [Value.oneCell']) w.heap.size w (Ext.one w _) (Nat.le_refl _) ?_; intro w1 HG1 hB1))
  have HE1 := hide (show Ext w w1 from hB1)
  clear hB1
  have HG2 := hide (show w1.heap[w.heap.size]? = some (.cells ((List.replicate 1 (-1 : Int) ++ List.replicate (n - 1) 0).map (Value.int .i64)).toArray 3 (0, 0)) from by
    rw [HG1.out]
    congr 4
    obtain ⟨m, rfl⟩ : ∃ m, n = m + 1 := ⟨n - 1, by omega⟩
    simp [splice, List.replicate_succ])
  clear HG1
  go_loopw [8] (fun k wr => ∃ j : Nat, 1 ≤ j ∧ j ≤ n ∧ k = .int .i64 (j : Int) ∧ Hid (wr.heap[w.heap.size]? = some (.cells ((List.replicate j (-1 : Int) ++ List.replicate (n - j) 0).map (Value.int .i64)).toArray 3 (0, 0))) ∧ Hid (Ext w wr)) (fun k _ => n - (intOf k).toNat)
  case atStart => exact ⟨1, Nat.le_refl _, by omega, rfl, HG2, HE1⟩
  case round =>
    obtain ⟨j, hj1, hjn, rfl, HG, HE⟩ := hrel
    by_cases hlt : j < n
    · have hji : (j : Int) < (n : Int) := by omega
      have htl := run_tail_int (some ⟨w.heap.size, 0, none⟩) n n j (by omega) (j : Int) rfl
      have HTA := hide (show tailA (some ⟨w.heap.size, 0, none⟩) n j = some ⟨w.heap.size, j, none⟩ by rw [tailA, if_neg (by omega)]; simp [Addr.add_lit])
      rw [HTA.out] at htl
      have HS := hide (splice_rep j n hj1 hjn)
      have HM := hide (show ((List.replicate (min j (n - j)) (-1 : Int)).map (Value.int .i64)).length = Nat.min j (n - j) by simp)
      have HFT := hide (show j + ((List.replicate (min j (n - j)) (-1 : Int)).map (Value.int .i64)).length ≤ ((List.replicate j (-1 : Int) ++ List.replicate (n - j) 0).map (Value.int .i64)).length by simp; omega)
      have HON := hide (show ∀ v ∈ ((List.replicate (min j (n - j)) (-1 : Int)).map (Value.int .i64)), v.oneCell' = true from ints_oneCell' _)
      have HSRC := hide (show ∀ i v, ((List.replicate (min j (n - j)) (-1 : Int)).map (Value.int .i64))[i]? = some v → wr.drew.cell? ((⟨w.heap.size, 0, none⟩ : Addr).add i) = some v from fun i v hv => by
        rw [Addr.add_lit, Nat.zero_add]
        show wr.cell? _ = some v
        rw [cell_of_row _ _ i _ _ _ HG.out]
        have hi : i < min j (n - j) := by have := (List.getElem?_eq_some_iff.1 hv).1; simpa using this
        rw [List.getElem?_map, List.getElem?_replicate, if_pos hi] at hv
        cases hv
        rw [List.getElem?_toArray, List.getElem?_map, List.getElem?_append_left (by simp; omega), List.getElem?_replicate, if_pos (by omega)]
        rfl)
      obtain ⟨s, hs⟩ : ∃ s, s = min j (n - j) := ⟨_, rfl⟩
      rw [← hs] at HS HM HFT HON HSRC
      have hs1 : 1 ≤ s := by omega
      have hsn : j + s ≤ n := by omega
      clear hs
      have hcp := run_copy_row (P := Try.prog) wr.drew 23 23 3 3 w.heap.size j (n - j) (n - j) (⟨w.heap.size, 0, none⟩ : Addr) j n _ 3 ((List.replicate s (-1 : Int)).map (Value.int .i64)) Try.underlying23 size_int HG.out HM.out HSRC.out (by simpa using HFT.out) HON.out
      obtain ⟨w4, hw4⟩ : ∃ w4 : World, w4 = wr.drew.setRow w.heap.size ((((List.replicate j (-1 : Int) ++ List.replicate (n - j) 0).map (Value.int .i64)).toArray.toList.take j ++ ((List.replicate s (-1 : Int)).map (Value.int .i64)) ++ ((List.replicate j (-1 : Int) ++ List.replicate (n - j) 0).map (Value.int .i64)).toArray.toList.drop (j + ((List.replicate s (-1 : Int)).map (Value.int .i64)).length)).toArray) := ⟨_, rfl⟩
      rw [← hw4] at hcp
      have HG4 := hide (show w4.heap[w.heap.size]? = some (.cells ((List.replicate (j + s) (-1 : Int) ++ List.replicate (n - (j + s)) 0).map (Value.int .i64)).toArray 3 (0, 0)) from by
        rw [hw4, setRow_heap _ _ _ _ 3 _ (show wr.drew.heap[w.heap.size]? = _ from HG.out), ← HS.out, splice, ← List.append_assoc])
      have HE4 := hide (show Ext w w4 by rw [hw4]; exact below_setRow HE.out.drew (Nat.le_refl _) _)
      clear hw4
      rw [show ((List.replicate s (-1 : Int)).map (Value.int .i64)).length = s by simp] at hcp
      go_wp2
      go_region
      all_goals go_wp2
      all_goals go_roundw
      case rel => exact ⟨j + s, by omega, hsn, by go_num, HG4, HE4⟩
      case measure => (simp [intOf] <;> omega)
    · have hje : j = n := by omega
      subst hje
      go_wp2
      go_ret
      refine ⟨w.heap.size, rfl, ⟨⟨by simp, Nat.le_refl _, by omega, .inr ⟨w.heap.size, 0, _, rfl, Nat.le_refl _, HG.out, by simp, fun k v hk => ?_⟩⟩, ?_⟩, HE.out⟩
      · rw [Nat.zero_add, List.getElem?_toArray]; simpa using hk
      · intro x hx; rw [(List.mem_replicate.1 hx).2]; exact ⟨by omega, by omega⟩

end Go.Proofs.Ytbaljgdepicigaa
