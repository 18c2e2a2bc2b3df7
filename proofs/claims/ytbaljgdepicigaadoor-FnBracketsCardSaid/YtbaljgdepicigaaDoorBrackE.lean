/-
  Contracts of the functions that ask whether a tour is monotone.
-/
import Derived.Laws.ShiftsVar
import Derived.Deep.RegionHeld3
import Derived.RegionTactic
import Derived.Deep.RegionWith
import Derived.Test.YtbaljgdepicigaaDoorBase
import Derived.Test.YtbaljgdepicigaaDoorMgA
import Derived.Test.YtbaljgdepicigaaDoorLib
import Derived.Test.YtbaljgdepicigaaDoorAid
import Derived.Test.YtbaljgdepicigaaDoorGrid
import Derived.Test.YtbaljgdepicigaaDoorLibF
import Derived.Test.YtbaljgdepicigaaDoorMathV
import Derived.Test.YtbaljgdepicigaaDoorSeed
import Derived.Test.YtbaljgdepicigaaDoorTour
import Derived.Test.YtbaljgdepicigaaDoorTourB
import Derived.Test.YtbaljgdepicigaaDoorBrack
import Derived.Test.YtbaljgdepicigaaDoorStep
import Derived.Test.YtbaljgdepicigaaDoorBrackB
import Derived.Test.YtbaljgdepicigaaDoorBrackC
namespace Go.Proofs.YtbaljgdepicigaaDoor
open Go.RowKit
set_option linter.unusedVariables false

-- impl.IsMonotone
theorem iMonotone_any (s : Int) (A : Option Addr) (n c : Nat) (xs : List Int) (w : World) (h : Ints w A n c xs) :
    Calls Tryd.prog 32 #[.agg #[.int .i64 s, .slice A n c]] w fun e w' => e = .returned (.bool (decide (isMono s xs))) ∧ Ext w w' := by
  have H_h := hide h
  have HL := hide h.len
  have HE0 := hide (Ext.one w (.cells #[.int .i64 s, .slice A n c] 26))
  have b0_0 : (w.alloc (.cells #[.int .i64 s, .slice A n c] 26)).cell? ⟨w.heap.size, 0, none⟩ = some (.int .i64 s) := by simp
  have b1_0 : (w.alloc (.cells #[.int .i64 s, .slice A n c] 26)).cell? ⟨w.heap.size, 1, none⟩ = some (.slice A n c) := by simp
  clear h
  by_cases hp1 : tourOk s xs
  · skip
    have HP1 := hide hp1
    have hs8 := tourOk_sz hp1 HL.out
    have HX0 := hide (fun x hx => (tourOk_row hp1 x hx).1)
    clear hp1
    go_enter Tryd.func32, Tryd.ntmps32
    go_wp2_with (first | (go_at_call 43; refine (iTourOk_any _ _ _ _ xs _ (H_h.out.ext HE0.out)).mono ?_; rw [decide_eq_true HP1.out]; rintro e w1 ⟨rfl, hE1⟩; have b0_1 := hE1.get b0_0; have b1_1 := hE1.get b1_0))
    have HE := hide (HE0.out.trans hE1)
    have B0 := hide b0_1; have B1 := hide b1_1
    clear b0_0 b1_0
    go_loopw [10] (fun i wr => ∃ a : Nat, a ≤ n ∧ i = .int .i64 a ∧ Hid (∀ k, k < a → ∀ b, b < n → k < b → bts xs k b) ∧ Ext w1 wr) (fun i _ => n - (intOf i).toNat)
    case atStart => exact ⟨0, Nat.zero_le _, rfl, hide (fun k hk => absurd hk (Nat.not_lt_zero _)), Ext.refl _⟩
    case round =>
      clear b0_1 b1_1
      obtain ⟨a, ha, rfl, HV, hE⟩ := hrel
      by_cases hlt : a < n
      · have HER := hide hE; clear hE
        have has : (a : Int) < s := by omega
        go_wp2
        obtain ⟨wo, hwo⟩ : ∃ wo : World, wo = wr := ⟨_, rfl⟩
        go_loopw [4] (fun i wr => ∃ b : Nat, b ≤ n ∧ a < b ∧ i = .int .i64 b ∧ Hid (∀ k, k < b → a < k → bts xs a k) ∧ Ext w1 wr) (fun i _ => n - (intOf i).toNat)
        case atStart => exact ⟨a + 1, by omega, by omega, by go_num, hide (fun k hk hk2 => absurd hk (by omega)), HER.out⟩
        case round =>
          clear HER hwo
          obtain ⟨b, hb, hab, rfl, HB, hE⟩ := hrel
          have HER := hide hE
          have e0 := hE.get B0.out
          have e1 := hE.get B1.out
          clear hE
          by_cases hltb : b < n
          · by_cases hq : bts xs a b
            · have HQ := hide (decide_eq_true hq)
              have HQ2 := hide hq
              clear hq
              go_wp2_with (go_at_call 68; refine (iBeats_any _ _ _ _ xs _ _ _ (H_h.out.ext (HE.out.trans HER.out)) (by omega) (by omega) HX0.out).mono ?_; rw [HQ.out]; rintro e w5 ⟨rfl, hE5⟩)
              go_roundw
              case rel =>
                refine ⟨b + 1, by omega, by omega, by go_num, hide (fun k hk hak => ?_), HER.out.trans hE5⟩
                by_cases e : k = b
                · rw [e]; exact HQ2.out
                · exact HB.out k (by omega) hak
              case measure => (simp [intOf] <;> omega)
            · have HQ := hide (decide_eq_false hq)
              have HN := hide (show ¬ isMono s xs from fun hm => hq (hm.2 a (by have := HL.out; omega) b (by have := HL.out; omega) hab))
              clear hq
              go_wp2_with (go_at_call 68; refine (iBeats_any _ _ _ _ xs _ _ _ (H_h.out.ext (HE.out.trans HER.out)) (by omega) (by omega) HX0.out).mono ?_; rw [HQ.out]; rintro e w5 ⟨rfl, hE5⟩)
              go_ret
              exact ⟨ret_bool (by symm; rw [decide_eq_false_iff_not]; exact HN.out), (HE.out.trans HER.out).trans hE5⟩
          · have hke : b = n := by omega
            have HW := hide (show ∀ k, k < a + 1 → ∀ j, j < n → k < j → bts xs k j from fun k hk j hj hkj => by
              by_cases e : k = a
              · rw [e]; exact HB.out j (by omega) (by omega)
              · exact HV.out k (by omega) j hj hkj)
            clear hke
            go_wp2
            go_roundw
            case rel => exact ⟨a + 1, by omega, by go_num, HW, HER.out⟩
            case measure => (simp [intOf] <;> omega)
      · have hke : a = n := by omega
        have HM := hide (show isMono s xs from ⟨HP1.out, by rw [HL.out]; rw [hke] at HV; exact HV.out⟩)
        have HER := hide hE; clear hE hke
        go_wp2
        go_ret
        exact ⟨ret_bool (by symm; rw [decide_eq_true_eq]; exact HM.out), HE.out.trans HER.out⟩
  · have HP1 := hide hp1
    have HF := hide (show (decide (isMono s xs)) = false from by
      rw [decide_eq_false_iff_not]
      unfold isMono
      intro hh; exact HP1.out (by first | exact hh.1 | exact hh.2.1 | exact hh.2.2.1 | exact hh.2.2 | exact hh.2.2.2 | exact hh.2.2.2.1 | exact hh | (have := hh; omega) | simp_all))
    clear hp1
    go_enter Tryd.func32, Tryd.ntmps32
    go_wp2_with (first | (go_at_call 43; refine (iTourOk_any _ _ _ _ xs _ (H_h.out.ext HE0.out)).mono ?_; rw [decide_eq_false HP1.out]; rintro e w1 ⟨rfl, hE1⟩; have b0_1 := hE1.get b0_0; have b1_1 := hE1.get b1_0))
    go_ret
    exact ⟨ret_bool HF.out.symm, (HE0.out.trans hE1)⟩
-- spec.l02Of
theorem nat_i64 {m : Nat} (h : m < 512) : I64 (m : Int) := ⟨by omega, by omega⟩
theorem and_ones (j : Nat) : bits BinOp.and IntKind.i64 (ones j : Int) 1 = (ones j : Int) % 2 := and_one_i64 _ (by omega) (by have := ones_le j; omega)
theorem mono_sum {a b : Nat} (h : b < 8) (ha : a < b) : wrap64 ((upN (a + 1) (b - (a + 1)) : Int) + wrap64 (2 ^ b)) = ((upN (a + 1) (b - (a + 1)) + 2 ^ b : Nat) : Int) ∧ upN (a + 1) (b - (a + 1)) + 2 ^ b < 512 := by
  obtain ⟨h2, h3⟩ := shl_nat b h
  have h1 := upN_lt (a + 1) (b - (a + 1)) (by omega)
  rw [h2]
  clear h2
  generalize (2 : Nat) ^ b = p at *
  unfold wrap64
  omega
theorem l02Of_any (n : Nat) (w : World) (hn : n ≤ 8) :
    Calls Tryd.prog 39 #[.int .i64 (n : Int), .int .i64 268435455] w (RetT w (n : Int) (mono n)) := by
  have hmk := run_make_ints n (by omega)
  go_enter Tryd.func39, Tryd.ntmps39
  go_wp2
  clear hmk
  obtain ⟨W, hW⟩ : ∃ W : World, W = ((w.alloc (.cells #[.int .i64 0, .slice none 0 0] 26)).alloc (.cells (zeroRow n) 3)).alloc (.cells #[.int .i64 (n : Int), .slice (some ⟨w.heap.size + 1, 0, none⟩) n n] 26) := ⟨_, rfl⟩
  have HE := hide (show Ext w W by rw [hW]; exact (((Ext.refl w).alloc _).alloc _).alloc _)
  have hh : (w.alloc (.cells #[.int .i64 0, .slice none 0 0] 26)).heap.size = w.heap.size + 1 := by simp
  have HO := hide (show OwI W (w.heap.size + 1) (some ⟨w.heap.size + 1, 0, none⟩) n n (monoMid n 0 1) by
    rw [hW, ← monoMid_start, ← hh]
    exact (OwI.zeros _ n (by omega) (Nat.le_refl _)).ext (Ext.one _ _))
  have hb0 : W.heap[w.heap.size]? = some (.cells #[.int .i64 0, .slice none 0 0] 26 (0, 0)) := by
    rw [hW]; exact heap_old (heap_old (heap_new w _))
  have hb2 : W.heap[w.heap.size + 1 + 1]? = some (.cells #[.int .i64 (n : Int), .slice (some ⟨w.heap.size + 1, 0, none⟩) n n] 26 (0, 0)) := by
    rw [hW]
    have := heap_new ((w.alloc (.cells #[.int .i64 0, .slice none 0 0] 26)).alloc (.cells (zeroRow n) 3)) (.cells #[.int .i64 (n : Int), .slice (some ⟨w.heap.size + 1, 0, none⟩) n n] 26)
    simpa using this
  have HB0 := hide hb0; have HB2 := hide hb2
  rw [← hW]
  clear hW hh hb0 hb2
  go_loopw [1, 6] (fun m i wr => ∃ a : Nat, a ≤ n ∧ i = .int .i64 a ∧ m = .int .i64 (ones (prs n a) : Int) ∧ Hid (OwI wr (w.heap.size + 1) (some ⟨w.heap.size + 1, 0, none⟩) n n (monoMid n a (a + 1))) ∧ W.grownBy wr (some (w.heap.size + 1))) (fun _ i _ => n - (intOf i).toNat)
  case atStart => exact ⟨0, Nat.zero_le _, rfl, by simp [prs, ones], HO, grown_refl _ _⟩
  case round =>
    obtain ⟨a, ha, rfl, rfl, HOa, hG⟩ := hrel
    by_cases hlt : a < n
    · have HG := hide hG; clear hG
      have han : (a : Int) < (n : Int) := by omega
      have hone := ones_le (prs n a)
      go_wp2
      obtain ⟨wo, hwo⟩ : ∃ wo : World, wo = wr := ⟨_, rfl⟩
      go_loopw [1, 7] (fun m i wr => ∃ b : Nat, b ≤ n ∧ a < b ∧ i = .int .i64 b ∧ m = .int .i64 (ones (prs n a + (b - (a + 1))) : Int) ∧ Hid (OwI wr (w.heap.size + 1) (some ⟨w.heap.size + 1, 0, none⟩) n n (monoMid n a b)) ∧ W.grownBy wr (some (w.heap.size + 1))) (fun _ i _ => n - (intOf i).toNat)
      case atStart => exact ⟨a + 1, by omega, by omega, by go_num, by rw [Nat.sub_self, Nat.add_zero], HOa, HG.out⟩
      case round =>
        clear HG HOa hwo hone
        obtain ⟨b, hb, hab, rfl, rfl, HOb, hG⟩ := hrel
        have hone := ones_le (prs n a + (b - (a + 1)))
        have c20 : wr.heap[w.heap.size + 1 + 1]? = _ := (hG.block _ (Array.getElem?_eq_some_iff.1 HB2.out).1 (by simp)).trans HB2.out
        have e0 : wr.cell? ⟨w.heap.size + 1 + 1, 0, none⟩ = some (.int .i64 (n : Int)) := by rw [cell_of_row _ _ 0 _ _ _ c20]; rfl
        have e1 : wr.cell? ⟨w.heap.size + 1 + 1, 1, none⟩ = some (.slice (some ⟨w.heap.size + 1, 0, none⟩) n n) := by rw [cell_of_row _ _ 1 _ _ _ c20]; rfl
        have HG := hide hG
        clear hG c20
        by_cases hltb : b < n
        · obtain ⟨b', off', x, e, hbb, hbl, hx, wx, hc, hf⟩ := HOb.out.get hlt
          cases e
          rw [monoMid_get hlt] at hx
          cases hx
          simp only [Nat.zero_add] at hc hf
          have HJ := hide (ones_step (prs n a + (b - (a + 1))) (prs_lt n (by omega) a hlt b hltb hab))
          have HP := hide (prs_step n a b hab hb)
          have HMS := hide (mono_sum (a := a) (b := b) (by omega) hab)
          have HST := hide (HOb.out.store (k := a) rfl hlt (x := ((upN (a + 1) (b - (a + 1)) + 2 ^ b : Nat) : Int)) (nat_i64 HMS.out.2))
          simp only [Nat.zero_add] at HST
          have hbit : (bits BinOp.and IntKind.i64 (ones (prs n a + (b - (a + 1))) : Int) 1 == 1) = true := by rw [and_ones]; have := HJ.out.1; simp; omega
          go_wp2
          go_region
          all_goals
            go_wp2
            rw [HMS.out.1]
            go_roundw
            case rel =>
              refine ⟨b + 1, by omega, by omega, by go_num, ?_, hide ?_, ?_⟩
              · rw [← HP.out, ← HJ.out.2]; exact congrArg _ (by omega)
              · have ho := HST.out
                rw [monoMid_set hab] at ho
                exact ho.ext ((Ext.refl _).drew)
              · exact grown_trans (grown_trans HG.out (grown_setCell _ _ _) (.inr (.inl rfl))) (grown_drew _ _) (.inr (.inl rfl))
            case measure => (simp [intOf] <;> omega)
        · have hke : b = n := by omega
          have HNX := hide (prs_next n a hlt)
          have HMN := hide (monoMid_next hlt)
          subst hke
          go_wp2
          go_roundw
          case rel => exact ⟨a + 1, by omega, by go_num, by rw [HNX.out, show a + 2 - (a + 1 + 1) = 0 by omega, Nat.add_zero], hide (by rw [show a + 1 + 1 = a + 2 from rfl, ← HMN.out]; exact HOb.out), HG.out⟩
          case measure => (simp [intOf] <;> omega)
    · have hke : a = n := by omega
      subst hke
      have b0 := (hG.block _ (Array.getElem?_eq_some_iff.1 HB0.out).1 (by simp)).trans HB0.out
      have b2 := (hG.block _ (Array.getElem?_eq_some_iff.1 HB2.out).1 (by simp)).trans HB2.out
      obtain ⟨c00, c01, f00, f01, s0⟩ := two_cells (Ext.refl wr) b0
      obtain ⟨c20, c21, f20, f21, s2⟩ := two_cells (Ext.refl wr) b2
      have HEW := hide (HE.out.grown hG (fun k hk => by cases hk; omega))
      have HME := hide (monoMid_end a)
      have HML := hide (mono_len a)
      clear b0 b2 hG
      go_wp2
      refine bodyPost_ret (v := .agg #[.int .i64 (a : Int), .slice (some ⟨w.heap.size + 1, 0, none⟩) a a]) (by simp [results, Tryd.results39, go_sem, c00, c01]) rfl ⟨some ⟨w.heap.size + 1, 0, none⟩, a, by rw [HML.out], ?_, (HEW.out.setCell (Nat.le_refl _) _).setCell (Nat.le_refl _) _⟩
      rw [HML.out, ← HME.out]
      refine ⟨(HOa.out.mono (by omega)).ow.keep fun k hk => ?_, HOa.out.wf⟩
      have hk' : k = w.heap.size + 1 := by simpa using hk.symm
      rw [Below.heap_setCell _ _ _ _ (by simp; omega), Below.heap_setCell _ _ _ _ (by simp; omega)]

end Go.Proofs.YtbaljgdepicigaaDoor
