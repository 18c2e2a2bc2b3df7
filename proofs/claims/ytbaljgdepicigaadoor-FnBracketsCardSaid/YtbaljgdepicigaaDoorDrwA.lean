/-
  Contracts of the functions that draw tours and orders.
-/
import Derived.Deep.RegionLaw
import Derived.Deep.RegionHeld3
import Derived.Laws.ShiftsVar
import Derived.Test.YtbaljgdepicigaaDoorBase
import Derived.Test.YtbaljgdepicigaaDoorMgA
import Derived.Test.YtbaljgdepicigaaDoorLib
import Derived.Test.YtbaljgdepicigaaDoorAid
import Derived.Test.YtbaljgdepicigaaDoorStep
import Derived.Test.YtbaljgdepicigaaDoorGrid
import Derived.Test.YtbaljgdepicigaaDoorLibF
import Derived.Test.YtbaljgdepicigaaDoorSeed
import Derived.Test.YtbaljgdepicigaaDoorTour
import Derived.Test.YtbaljgdepicigaaDoorTourB
import Derived.Test.YtbaljgdepicigaaDoorCurA
namespace Go.Proofs.YtbaljgdepicigaaDoor
open Go.RowKit
set_option linter.unusedVariables false
set_option maxRecDepth 100000

-- words
theorem nat_i64D {m : Nat} (h : m < 512) : I64 (m : Int) := ⟨by omega, by omega⟩
theorem shl_natD (a : Nat) (h : a < 8) : wrap64 (2 ^ a) = ((2 ^ a : Nat) : Int) ∧ (2 : Nat) ^ a ≤ 128 := by
  have h1 : (2 : Nat) ^ a ≤ 2 ^ 7 := Nat.pow_le_pow_right (by omega) (by omega)
  have h3 : ((2 ^ a : Nat) : Int) = (2 : Int) ^ a := by simp
  rw [← h3]
  generalize (2 : Nat) ^ a = p at *
  exact ⟨by unfold wrap64; omega, h1⟩
/-- A new valid tour of n players comes back. -/
def RetTour (w : World) (n : Nat) (e : Ending) (w' : World) : Prop := ∃ xs A c, tourOk (n : Int) xs ∧ e = .returned (.agg #[.int .i64 (n : Int), .slice A n c]) ∧ OwI w' w.heap.size A n c xs ∧ Ext w w'
theorem add_shl {m b : Nat} (hb : b < 8) (hm : m < 256) : wrap64 ((m : Int) + wrap64 (2 ^ b)) = ((m + 2 ^ b : Nat) : Int) := by
  obtain ⟨h2, h3⟩ := shl_natD b hb
  rw [h2]
  clear h2
  generalize (2 : Nat) ^ b = p at *
  unfold wrap64
  omega
-- spec.l02Of
set_option maxHeartbeats 1000000 in
theorem l02OfV_any (n : Nat) (v : Int) (w : World) (h1 : 1 ≤ n) (hn : n ≤ 8) (hv : 0 ≤ v ∧ v ≤ 4611686018427387904) :
    Calls Tryd.prog 39 #[.int .i64 (n : Int), .int .i64 v] w (RetTour w n) := by
  have hmk := run_make_ints n (by omega)
  go_enter Tryd.func39, Tryd.ntmps39
  go_wp2
  clear hmk
  obtain ⟨W, hW⟩ : ∃ W : World, W = ((w.alloc (.cells #[.int .i64 0, .slice none 0 0] 26)).alloc (.cells (zeroRow n) 3)).alloc (.cells #[.int .i64 (n : Int), .slice (some ⟨w.heap.size + 1, 0, none⟩) n n] 26) := ⟨_, rfl⟩
  have HE := hide (show Ext w W by rw [hW]; exact (((Ext.refl w).alloc _).alloc _).alloc _)
  have hh : (w.alloc (.cells #[.int .i64 0, .slice none 0 0] 26)).heap.size = w.heap.size + 1 := by simp
  have HO := hide (show OwI W (w.heap.size + 1) (some ⟨w.heap.size + 1, 0, none⟩) n n (List.replicate n 0) by
    rw [hW, ← hh]
    exact (OwI.zeros _ n (by omega) (Nat.le_refl _)).ext (Ext.one _ _))
  have hb0 : W.heap[w.heap.size]? = some (.cells #[.int .i64 0, .slice none 0 0] 26 (0, 0)) := by
    rw [hW]; exact heap_old (heap_old (heap_new w _))
  have hb2 : W.heap[w.heap.size + 1 + 1]? = some (.cells #[.int .i64 (n : Int), .slice (some ⟨w.heap.size + 1, 0, none⟩) n n] 26 (0, 0)) := by
    rw [hW]
    have := heap_new ((w.alloc (.cells #[.int .i64 0, .slice none 0 0] 26)).alloc (.cells (zeroRow n) 3)) (.cells #[.int .i64 (n : Int), .slice (some ⟨w.heap.size + 1, 0, none⟩) n n] 26)
    simpa using this
  have HB0 := hide hb0; have HB2 := hide hb2
  rw [← hW]
  clear hW hh hb0 hb2
  go_loopw [1, 6] (fun m i wr => ∃ (a : Nat) (u : Int) (xs : List Int), a ≤ n ∧ (0 ≤ u ∧ u ≤ 4611686018427387904) ∧ i = .int .i64 a ∧ m = .int .i64 u ∧ Hid (OfSt n a (a + 1) xs) ∧ Hid (OwI wr (w.heap.size + 1) (some ⟨w.heap.size + 1, 0, none⟩) n n xs) ∧ W.grownBy wr (some (w.heap.size + 1))) (fun _ i _ => n - (intOf i).toNat)
  case atStart => exact ⟨0, v, _, Nat.zero_le _, hv, rfl, rfl, hide (ofSt_start n), HO, grown_refl _ _⟩
  case round =>
    obtain ⟨a, u, xs, ha, hu, rfl, rfl, HST, HOa, hG⟩ := hrel
    by_cases hlt : a < n
    · have HG := hide hG; clear hG
      have han : (a : Int) < (n : Int) := by omega
      go_wp2
      obtain ⟨wo, hwo⟩ : ∃ wo : World, wo = wr := ⟨_, rfl⟩
      go_loopw [1, 7] (fun m i wr => ∃ (b : Nat) (u : Int) (xs : List Int), b ≤ n ∧ a < b ∧ (0 ≤ u ∧ u ≤ 4611686018427387904) ∧ i = .int .i64 b ∧ m = .int .i64 u ∧ Hid (OfSt n a b xs) ∧ Hid (OwI wr (w.heap.size + 1) (some ⟨w.heap.size + 1, 0, none⟩) n n xs) ∧ W.grownBy wr (some (w.heap.size + 1))) (fun _ i _ => n - (intOf i).toNat)
      case atStart => exact ⟨a + 1, u, xs, by omega, by omega, hu, by go_num, rfl, HST, HOa, HG.out⟩
      case round =>
        clear HG HOa HST hwo
        obtain ⟨b, u, xs, hb, hab, hu, rfl, rfl, HST, HOb, hG⟩ := hrel
        have c20 : wr.heap[w.heap.size + 1 + 1]? = _ := (hG.block _ (Array.getElem?_eq_some_iff.1 HB2.out).1 (by simp)).trans HB2.out
        have e0 : wr.cell? ⟨w.heap.size + 1 + 1, 0, none⟩ = some (.int .i64 (n : Int)) := by rw [cell_of_row _ _ 0 _ _ _ c20]; rfl
        have e1 : wr.cell? ⟨w.heap.size + 1 + 1, 1, none⟩ = some (.slice (some ⟨w.heap.size + 1, 0, none⟩) n n) := by rw [cell_of_row _ _ 1 _ _ _ c20]; rfl
        have HG := hide hG
        clear hG c20
        by_cases hltb : b < n
        · have hone := and_one_i64 u hu.1 (by omega)
          have hu2 : 0 ≤ u / 2 ∧ u / 2 ≤ 4611686018427387904 := by omega
          have HNB := hide (ofSt_none HST.out hab hltb hn)
          by_cases hbit1 : u % 2 = 1
          · have hbit : (bits BinOp.and IntKind.i64 u 1 == 1) = true := by rw [hone]; simpa using hbit1
            obtain ⟨b', off', x, e, hbb, hbl, hx, wx, hc, hf⟩ := HOb.out.get hlt
            cases e
            obtain ⟨m, hm, hm8⟩ := rowsOk_get HST.out.1 hlt
            rw [hm] at hx
            obtain rfl : (m : Int) = x := Option.some.inj hx
            simp only [Nat.zero_add] at hc hf
            have HAD := hide (bts_add HST.out.1 hm hm8 (show b < 8 by omega) HNB.out.1)
            have HMS := hide (add_shl (m := m) (b := b) (by omega) hm8)
            have HNX := hide (ofSt_step HST.out hab hltb hn HAD.out.2.1 a b (.inl ⟨rfl, rfl⟩) HAD.out.2.2)
            have HSTO := hide (HOb.out.store (k := a) rfl hlt (x := ((m + 2 ^ b : Nat) : Int)) (nat_i64D (by have := HAD.out.1; omega)))
            simp only [Nat.zero_add] at HSTO
            clear hm hx hone hbit1
            go_wp2
            go_region
            all_goals
              go_wp2
              rw [HMS.out]
              go_roundw
              case rel => exact ⟨b + 1, u / 2, _, by omega, by omega, hu2, by go_num, rfl, HNX, hide (HSTO.out.ext ((Ext.refl _).drew)), grown_trans (grown_trans HG.out (grown_setCell _ _ _) (.inr (.inl rfl))) (grown_drew _ _) (.inr (.inl rfl))⟩
              case measure => (simp [intOf] <;> omega)
          · have hbit : (bits BinOp.and IntKind.i64 u 1 == 1) = false := by rw [hone]; simpa using hbit1
            obtain ⟨b', off', x, e, hbb, hbl, hx, wx, hc, hf⟩ := HOb.out.get hltb
            cases e
            obtain ⟨m, hm, hm8⟩ := rowsOk_get HST.out.1 hltb
            rw [hm] at hx
            obtain rfl : (m : Int) = x := Option.some.inj hx
            simp only [Nat.zero_add] at hc hf
            have HAD := hide (bts_add HST.out.1 hm hm8 (show a < 8 by omega) HNB.out.2)
            have HMS := hide (add_shl (m := m) (b := a) (by omega) hm8)
            have HNX := hide (ofSt_step HST.out hab hltb hn HAD.out.2.1 b a (.inr ⟨rfl, rfl⟩) HAD.out.2.2)
            have HSTO := hide (HOb.out.store (k := b) rfl hltb (x := ((m + 2 ^ a : Nat) : Int)) (nat_i64D (by have := HAD.out.1; omega)))
            simp only [Nat.zero_add] at HSTO
            clear hm hx hone hbit1
            go_wp2
            go_region
            all_goals
              go_wp2
              rw [HMS.out]
              go_roundw
              case rel => exact ⟨b + 1, u / 2, _, by omega, by omega, hu2, by go_num, rfl, HNX, hide (HSTO.out.ext ((Ext.refl _).drew)), grown_trans (grown_trans HG.out (grown_setCell _ _ _) (.inr (.inl rfl))) (grown_drew _ _) (.inr (.inl rfl))⟩
              case measure => (simp [intOf] <;> omega)
        · have hke : b = n := by omega
          subst hke
          have HNX := hide (ofSt_next HST.out)
          go_wp2
          go_roundw
          case rel => exact ⟨a + 1, u, xs, by omega, hu, by go_num, rfl, HNX, HOb, HG.out⟩
          case measure => (simp [intOf] <;> omega)
    · have hke : a = n := by omega
      subst hke
      have b0 := (hG.block _ (Array.getElem?_eq_some_iff.1 HB0.out).1 (by simp)).trans HB0.out
      have b2 := (hG.block _ (Array.getElem?_eq_some_iff.1 HB2.out).1 (by simp)).trans HB2.out
      obtain ⟨c00, c01, f00, f01, s0⟩ := two_cells (Ext.refl wr) b0
      obtain ⟨c20, c21, f20, f21, s2⟩ := two_cells (Ext.refl wr) b2
      have HEW := hide (HE.out.grown hG (fun k hk => by cases hk; omega))
      have HTO := hide (ofSt_end h1 hn HST.out)
      clear b0 b2 hG
      go_wp2
      refine bodyPost_ret (v := .agg #[.int .i64 (a : Int), .slice (some ⟨w.heap.size + 1, 0, none⟩) a a]) (by simp [results, Tryd.results39, go_sem, c00, c01]) rfl ⟨xs, some ⟨w.heap.size + 1, 0, none⟩, a, HTO.out, rfl, ?_, (HEW.out.setCell (Nat.le_refl _) _).setCell (Nat.le_refl _) _⟩
      refine ⟨(HOa.out.mono (by omega)).ow.keep fun k hk => ?_, HOa.out.wf⟩
      have hk' : k = w.heap.size + 1 := by simpa using hk.symm
      rw [Below.heap_setCell _ _ _ _ (by simp; omega), Below.heap_setCell _ _ _ _ (by simp; omega)]

end Go.Proofs.YtbaljgdepicigaaDoor
