/-
  The stable sort of players by their scores.
-/
import Derived.Laws.ShiftsVar
import Derived.Deep.QuietTactic
import Derived.Great.Walk
import Derived.Deep.RegionWith
import Derived.Deep.RegionHeld3
import Derived.Test.YtbaljgdepicigaaDoorBase
import Derived.Test.YtbaljgdepicigaaDoorMgA
import Derived.Test.YtbaljgdepicigaaDoorLib
import Derived.Test.YtbaljgdepicigaaDoorAid
import Derived.Test.YtbaljgdepicigaaDoorStep
import Derived.Test.YtbaljgdepicigaaDoorGrid
import Derived.Test.YtbaljgdepicigaaDoorLibF
import Derived.Test.YtbaljgdepicigaaDoorMgB
import Derived.Test.YtbaljgdepicigaaDoorPop
import Derived.Test.YtbaljgdepicigaaDoorDblB
import Derived.Test.YtbaljgdepicigaaDoorTour
import Derived.Test.YtbaljgdepicigaaDoorWin
import Derived.Test.YtbaljgdepicigaaDoorWinE
namespace Go.Proofs.YtbaljgdepicigaaDoor
open Go.RowKit
set_option linter.unusedVariables false
set_option maxRecDepth 100000

-- (impl.Tour).byScore$1
/-- The scores. -/
def scS (xs : List Int) : List Int := (List.range xs.length).map fun (a : Nat) => (pc (rowN xs (a : Int)) : Int)
theorem scS_len (xs : List Int) : (scS xs).length = xs.length := by simp [scS]
theorem scS_at {xs : List Int} {a : Nat} (h : a < xs.length) : vO (scS xs) (a : Int) = (pc (rowN xs (a : Int)) : Int) := by
  unfold vO scS
  rw [Int.toNat_natCast, List.getD_eq_getElem?_getD, List.getElem?_map, List.getElem?_range h]; rfl
theorem byScoreC_any (n : Nat) (A : Option Addr) (c : Nat) (xs : List Int) (pb i k : Nat) (w : World) (ht : tourOk (n : Int) xs) (h : Ints w A n c xs) (h0 : w.cell? ⟨pb, 0, none⟩ = some (.int .i64 (n : Int))) (h1 : w.cell? ⟨pb, 1, none⟩ = some (.slice A n c)) (hi : i < n) (hk : k < n) :
    Calls Tryd.prog 105 #[.int .i64 (i : Int), .int .i64 (k : Int), .pointer (some ⟨pb, 0, none⟩)] w fun e w' => e = .returned (.int .i64 (vO (scS xs) (k : Int) - vO (scS xs) (i : Int))) ∧ Ext w w' := by
  have hl : xs.length = n := by have := tourOk_size ht; omega
  rw [scS_at (by omega), scS_at (by omega)]
  have hp1 := pc_le8 (rowN xs (k : Int))
  have hp2 := pc_le8 (rowN xs (i : Int))
  have C1 := hide (fun (e : After w) => score_any (n : Int) A n c xs k e.val ht (h.ext e.property) hk)
  have C2 := hide (fun (e : After w) => score_any (n : Int) A n c xs i e.val ht (h.ext e.property) hi)
  have d0 := after_cell h0
  have d1 := after_cell h1
  generalize pc (rowN xs (k : Int)) = u at *
  generalize pc (rowN xs (i : Int)) = v at *
  have hwv : IntKind.i64.wrap ((u : Int) - (v : Int)) = (u : Int) - (v : Int) := by rw [IntKind.wrap_i64]; omega
  clear ht h hl h0 h1
  go_enter Tryd.func105, Tryd.ntmps105
  go_wp2
  refine wp_region_ext (by kernel_rfl) (by kernel_rfl) ?_
  repeat (go_big_quiet_step ((go_at_call 59; (first | with_reducible exact after_call (C1.out _) | with_reducible exact after_call (C2.out _)))))
  refine wpQuiet_nil ?_
  rintro w2 ⟨⟨w2, hE2⟩, rfl⟩
  go_wp2
  go_ret
  exact ⟨rfl, hE2⟩
-- slices.insertionSortCmpFunc
theorem insSortT_any {base : Nat} (A : Option Addr) (n c : Nat) (xs : List Int) (pb : Nat) (w0 w : World) (h0 : 1 ≤ n) (hn8 : n ≤ 65536) (hc : ∀ (w' : World) (i k : Nat), Ext w0 w' → i < n → k < n → Calls Tryd.prog 105 #[.int .i64 (i : Int), .int .i64 (k : Int), .pointer (some ⟨pb, 0, none⟩)] w' fun e w'' => e = .returned (.int .i64 (vO xs (k : Int) - vO xs (i : Int))) ∧ Ext w' w'') (hE : Ext w0 w) (hbase : w0.heap.size ≤ base) (ho : OwI w base A n c (upto n)) :
    Calls Tryd.prog 107 #[.slice A n c, .int .i64 0, .int .i64 (n : Int), .func (.func 105) #[] #[.pointer (some ⟨pb, 0, none⟩)]] w fun e w' => e = .returned (.tuple #[]) ∧ OwI w' base A n c (orderO xs n) ∧ w.grownBy w' (A.map (·.block)) := by
  have HO := hide ho
  have HE := hide hE
  have HC := hide hc
  have H0 := hide (show orderO xs 1 ++ (upto n).drop 1 = upto n by
    rw [show orderO xs 1 = [0] from rfl]
    have h9 := upto_drop (n := n) (i := 0) (by omega)
    rw [List.drop_zero] at h9
    rw [h9]
    rfl)
  clear ho hE hc
  go_enter Tryd.func107, Tryd.ntmps107
  go_wp2
  go_loopw [8] (fun i wr => ∃ k : Nat, 1 ≤ k ∧ k ≤ n ∧ i = .int .i64 (k : Int) ∧ Hid (OwI wr base A n c (orderO xs k ++ (upto n).drop k)) ∧ w.grownBy wr (A.map (·.block))) (fun i _ => n - (intOf i).toNat)
  case atStart => exact ⟨1, by omega, h0, rfl, hide (by rw [H0.out]; exact HO.out), grown_refl _ _⟩
  case round =>
    obtain ⟨k, hk1, hk, rfl, HK, hg⟩ := hrel
    have HG := hide hg
    clear hg
    by_cases hlt : k < n
    · have hki : (k : Int) < (n : Int) := by omega
      have HK2 := hide (show OwI wr base A n c (midO xs n k k) by rw [← midO_start xs hlt]; exact HK.out)
      clear HK
      go_wp2
      go_loopw [9] (fun i wr => ∃ j : Nat, j ≤ k ∧ i = .int .i64 (j : Int) ∧ Hid (posO xs (orderO xs k) (vO xs (k : Int)) j = posO xs (orderO xs k) (vO xs (k : Int)) k) ∧ Hid (OwI wr base A n c (midO xs n k j)) ∧ w.grownBy wr (A.map (·.block))) (fun i _ => (intOf i).toNat)
      case atStart => exact ⟨k, Nat.le_refl _, rfl, hide rfl, HK2, HG.out⟩
      case round =>
        obtain ⟨j, hj, rfl, HP, HJ, hg⟩ := hrel
        have HG2 := hide hg
        clear hg
        have HEW := hide (show Ext w0 wr from HE.out.grown HG2.out (fun q e => by have := (HJ.out.block q e).1; omega))
        by_cases hj0 : j = 0
        · subst hj0
          have HEN := hide (show midO xs n k 0 = orderO xs (k + 1) ++ (upto n).drop (k + 1) by rw [← midO_end xs n k, ← HP.out]; rfl)
          go_wp2
          go_quiet (fail)
          obtain ⟨w2, hw2⟩ : ∃ w2 : World, w2 = wr.drewN nq := ⟨_, rfl⟩
          have HE2 := hide (show Ext wr w2 by rw [hw2]; exact (Ext.refl _).drewN _)
          rw [← hw2]
          clear hw2
          go_wp2
          go_roundw
          case rel => exact ⟨k + 1, by omega, by omega, by go_num, hide (by rw [← HEN.out]; exact HJ.out.ext HE2.out), HG2.out.trans (HE2.out.to_grown _)⟩
          case measure => (simp [intOf] <;> omega)
        · obtain ⟨q, hq⟩ : ∃ q, j = q + 1 := ⟨j - 1, by omega⟩
          have hjm : (j : Int) - 1 = (q : Int) := by omega
          have hqk : q < k := by omega
          obtain ⟨b, o, x, rfl, hb1, hb2, hx, wx, hcx, hfx⟩ := HJ.out.get (k := j) (by omega)
          obtain ⟨b', o', y, e, _, _, hy, wy, hcy, hfy⟩ := HJ.out.get (k := q) (by omega)
          cases e
          rw [midO_at xs hj] at hx
          cases hx
          rw [show (midO xs n k j)[q]? = (orderO xs k)[q]? by rw [hq]; exact midO_before xs (by omega)] at hy
          have hyb := orderO_mem xs k y (List.mem_of_getElem? hy)
          obtain ⟨p, rfl⟩ : ∃ p : Nat, y = (p : Int) := ⟨y.toNat, by omega⟩
          have HSW := hide (show ((midO xs n k j).set j (p : Int)).set q (k : Int) = midO xs n k q by rw [hq]; exact midO_swap xs hy)
          have hst := HP.out
          rw [hq] at hst
          simp only [posO] at hst
          rw [show (orderO xs k).getD q 0 = (p : Int) by simp [List.getD, hy]] at hst
          have CQ := hide (fun (w' : World) (hE' : Ext wr w') => HC.out w' k p (HEW.out.trans hE') hlt (by omega))
          have hjn : j < n := by omega
          have hqn : q < n := by omega
          have hji : (j : Int) < (n : Int) := by omega
          have hqi : (q : Int) < (n : Int) := by omega
          have hj0i : (0 : Int) < (j : Int) := by omega
          have hj0n : 0 < j := by omega
          have hjq : ¬ j = q := by omega
          have hqj : ¬ q = j := by omega
          have hne : ¬ o + j = o + q := by omega
          have hne2 : ¬ o + q = o + j := by omega
          have HQ := hide hq
          clear hq hy hj0
          by_cases hv : vO xs (p : Int) < vO xs (k : Int)
          · rw [if_pos hv] at hst
            have HST := hide hst
            have hct : vO xs (p : Int) - vO xs (k : Int) < 0 := by omega
            clear hst hv
            generalize vO xs (p : Int) - vO xs (k : Int) = Cv at *
            go_wp2
            have d0 := after_cell hcx
            have d1 := after_cell hcy
            have CA := hide (show ∀ e : After wr, Calls Tryd.prog 105 #[.int .i64 (k : Int), .int .i64 (p : Int), .pointer (some ⟨pb, 0, none⟩)] e.val fun r w'' => r = .returned (.int .i64 Cv) ∧ Ext e.val w'' from fun e => (CQ.out e.val e.property).mono fun _ _ h => ⟨h.1, h.2⟩)
            refine wp_region_ext (by kernel_rfl) (by kernel_rfl) ?_
            repeat (go_big_quiet_step ((go_at_call 105; exact after_call (CA.out _))))
            refine wpQuiet_nil ?_
            rintro w2 ⟨⟨w2, hE5⟩, rfl⟩
            have HE2 := hide (show Ext wr w2 from hE5)
            clear d0 d1 hE5
            have hdx := HE2.out.get hcx
            have hdy := HE2.out.get hcy
            have HJ2 := hide (HJ.out.ext HE2.out)
            clear hcx hcy hfx hfy
            obtain ⟨_, _, _, e, _, _, _, _, _, hfx⟩ := HJ2.out.get (k := j) hjn
            cases e
            obtain ⟨_, _, _, e, _, _, _, _, _, hfy⟩ := HJ2.out.get (k := q) hqn
            cases e
            have HO1 := hide ((HJ2.out.store rfl (k := j) hjn wy).store rfl (k := q) hqn wx)
            go_wp2
            go_region
            have HG3 := hide ((((HG2.out.trans (HE2.out.to_grown _)).trans (grown_setCell w2 ⟨b, o + j, none⟩ (.int .i64 (p : Int)))).trans (grown_setCell _ ⟨b, o + q, none⟩ (.int .i64 (k : Int)))).trans (grown_drew _ (some b)))
            have HO2 := hide (HO1.out.ext (Ext.refl _).drew)
            clear HO1
            go_wp2
            go_roundw
            case rel => exact ⟨q, by omega, rfl, HST, hide (by rw [← HSW.out]; exact HO2.out), HG3.out⟩
            case measure => (simp [intOf] <;> (have := HQ.out; omega))
          · rw [if_neg hv] at hst
            have hct : ¬ vO xs (p : Int) - vO xs (k : Int) < 0 := by omega
            have HEN := hide (show midO xs n k j = orderO xs (k + 1) ++ (upto n).drop (k + 1) by rw [← midO_end xs n k, ← hst, HQ.out])
            clear hst hv
            generalize vO xs (p : Int) - vO xs (k : Int) = Cv at *
            go_wp2
            have d0 := after_cell hcx
            have d1 := after_cell hcy
            have CA := hide (show ∀ e : After wr, Calls Tryd.prog 105 #[.int .i64 (k : Int), .int .i64 (p : Int), .pointer (some ⟨pb, 0, none⟩)] e.val fun r w'' => r = .returned (.int .i64 Cv) ∧ Ext e.val w'' from fun e => (CQ.out e.val e.property).mono fun _ _ h => ⟨h.1, h.2⟩)
            refine wp_region_ext (by kernel_rfl) (by kernel_rfl) ?_
            repeat (go_big_quiet_step ((go_at_call 105; exact after_call (CA.out _))))
            refine wpQuiet_nil ?_
            rintro w2 ⟨⟨w2, hE5⟩, rfl⟩
            have HE2 := hide (show Ext wr w2 from hE5)
            clear d0 d1 hE5
            go_wp2
            go_roundw
            case rel => exact ⟨k + 1, by omega, by omega, by go_num, hide (by rw [← HEN.out]; exact HJ.out.ext HE2.out), HG2.out.trans (HE2.out.to_grown _)⟩
            case measure => (simp [intOf] <;> omega)
    · have hke : k = n := by omega
      subst hke
      have HV := hide (show orderO xs k ++ (upto k).drop k = orderO xs k by rw [List.drop_of_length_le (by rw [upto_len]; exact Nat.le_refl _), List.append_nil])
      go_wp2
      exact Go.Great.bodyPost_end0 rfl rfl ⟨rfl, by rw [← HV.out]; exact HK.out, HG.out⟩
-- stable
theorem stableT_any {base : Nat} (A : Option Addr) (n c : Nat) (xs : List Int) (pb : Nat) (w0 w : World) (h0 : 1 ≤ n) (hn8 : n ≤ 8) (hc : ∀ (w' : World) (i k : Nat), Ext w0 w' → i < n → k < n → Calls Tryd.prog 105 #[.int .i64 (i : Int), .int .i64 (k : Int), .pointer (some ⟨pb, 0, none⟩)] w' fun e w'' => e = .returned (.int .i64 (vO xs (k : Int) - vO xs (i : Int))) ∧ Ext w' w'') (hE : Ext w0 w) (hbase : w0.heap.size ≤ base) (ho : OwI w base A n c (upto n)) :
    Calls Tryd.prog 106 #[.slice A n c, .int .i64 (n : Int), .func (.func 105) #[] #[.pointer (some ⟨pb, 0, none⟩)]] w fun e w' => e = .returned (.tuple #[]) ∧ OwI w' base A n c (orderO xs n) ∧ w.grownBy w' (A.map (·.block)) := by
  have CI := hide (insSortT_any A n c xs pb w0 w h0 (by omega) hc hE hbase ho)
  have h20 : ¬ (20 : Int) ≤ (n : Int) := by omega
  have h20b : ¬ (20 : Int) < (n : Int) := by omega
  clear hc hE ho
  go_enter Tryd.func106, Tryd.ntmps106
  go_wp2
  go_loopw [7, 8] (fun a b wr => a = .int .i64 0 ∧ b = .int .i64 20 ∧ w = wr) (fun _ _ _ => 0)
  case atStart => exact ⟨rfl, rfl, rfl⟩
  case round =>
    obtain ⟨rfl, rfl, rfl⟩ := hrel
    go_wp2_with (go_at_call 107; refine CI.out.mono ?_; rintro e w2 ⟨rfl, hO, hg⟩)
    have HO := hide hO
    have HG := hide hg
    clear hO hg
    go_loopw [6] (fun a wr => a = .int .i64 20 ∧ w2 = wr) (fun _ _ => 0)
    case atStart => exact ⟨rfl, rfl⟩
    case round =>
      obtain ⟨rfl, rfl⟩ := hrel
      go_wp2
      exact Go.Great.bodyPost_end0 rfl rfl ⟨rfl, HO.out, HG.out⟩
theorem sortStableT_any {base : Nat} (A : Option Addr) (n c : Nat) (xs : List Int) (pb : Nat) (w0 w : World) (h0 : 1 ≤ n) (hn8 : n ≤ 8) (hc : ∀ (w' : World) (i k : Nat), Ext w0 w' → i < n → k < n → Calls Tryd.prog 105 #[.int .i64 (i : Int), .int .i64 (k : Int), .pointer (some ⟨pb, 0, none⟩)] w' fun e w'' => e = .returned (.int .i64 (vO xs (k : Int) - vO xs (i : Int))) ∧ Ext w' w'') (hE : Ext w0 w) (hbase : w0.heap.size ≤ base) (ho : OwI w base A n c (upto n)) :
    Calls Tryd.prog 104 #[.slice A n c, .func (.func 105) #[] #[.pointer (some ⟨pb, 0, none⟩)]] w fun e w' => e = .returned (.tuple #[]) ∧ OwI w' base A n c (orderO xs n) ∧ w.grownBy w' (A.map (·.block)) := by
  have CI := hide (stableT_any A n c xs pb w0 w h0 hn8 hc hE hbase ho)
  clear hc hE ho
  go_enter Tryd.func104, Tryd.ntmps104
  go_wp2_with (go_at_call 106; refine CI.out.mono ?_; rintro e w2 ⟨rfl, hO, hg⟩)
  exact Go.Great.bodyPost_end0 rfl rfl ⟨rfl, hO, hg⟩

end Go.Proofs.YtbaljgdepicigaaDoor
