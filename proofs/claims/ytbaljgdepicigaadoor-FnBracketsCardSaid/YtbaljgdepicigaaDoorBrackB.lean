/-
  Contracts of the functions that play rounds of brackets.
-/
import Derived.Laws.ShiftsVar
import Derived.Deep.RegionHeld3
import Derived.Test.YtbaljgdepicigaaDoorBase
import Derived.Test.YtbaljgdepicigaaDoorMgA
import Derived.Test.YtbaljgdepicigaaDoorLib
import Derived.Test.YtbaljgdepicigaaDoorAid
import Derived.Test.YtbaljgdepicigaaDoorGrid
import Derived.Test.YtbaljgdepicigaaDoorLibF
import Derived.Test.YtbaljgdepicigaaDoorSeed
import Derived.Test.YtbaljgdepicigaaDoorTour
import Derived.Test.YtbaljgdepicigaaDoorTourB
import Derived.Test.YtbaljgdepicigaaDoorBrack
import Derived.Test.YtbaljgdepicigaaDoorStep
namespace Go.Proofs.YtbaljgdepicigaaDoor
open Go.RowKit
set_option linter.unusedVariables false
set_option maxRecDepth 100000

-- words
theorem game_yes {xs : List Int} {a b : Int} (h : a < 0 ∨ 0 ≤ b ∧ bts xs b.toNat a.toNat) : game xs a b = b := if_pos h
theorem game_no {xs : List Int} {a b : Int} (h : ¬ (a < 0 ∨ 0 ≤ b ∧ bts xs b.toNat a.toNat)) : game xs a b = a := if_neg h
theorem even_len {s : Int} {br : List Int} (h : brk s br) (h1 : 1 < br.length) : br.length % 2 = 0 := by have := h.1; unfold brkSize at this; omega
theorem tourOk_sz {s : Int} {xs : List Int} {n : Nat} (h : tourOk s xs) (hl : xs.length = n) : 1 ≤ n ∧ n ≤ 8 ∧ s ≤ n ∧ n ≤ s := by have := tourOk_size h; omega
def slLen : Value → Nat | .slice _ n _ => n | _ => 0
-- nextRound impl
theorem iNext_any (s : Int) (A : Option Addr) (n c : Nat) (xs : List Int) (A2 : Option Addr) (n2 c2 : Nat) (br : List Int) (w : World) (h : Ints w A n c xs) (h2 : Ints w A2 n2 c2 br)
    (ht : tourOk s xs) (hb : brk s br) (h1 : 1 < br.length) :
    Calls Tryd.prog 66 #[.agg #[.int .i64 s, .slice A n c], .slice A2 n2 c2] w (RetI w (nextR xs br)) := by
  have HL := hide h.len; have HL2 := hide h2.len
  have hle2 := h2.le
  have hmx2 := h2.max
  have hs8 := tourOk_sz ht HL.out
  have hn28 := brk_len hb
  rw [HL2.out] at h1 hn28
  have hev : n2 % 2 < 1 := by have := even_len hb (by rw [HL2.out]; exact h1); rw [HL2.out] at this; omega
  have HX0 := hide (fun x hx => (tourOk_row ht x hx).1)
  have HBR := hide hb.2.1
  have HI := hide h; have HI2 := hide h2
  have HNL := hide (nextR_len xs br)
  clear h h2 ht hb
  go_enter Tryd.func66, Tryd.ntmps66
  go_wp2
  obtain ⟨W, hW⟩ : ∃ W : World, W = w.alloc (.cells #[.int .i64 s, .slice A n c] 26) := ⟨_, rfl⟩
  have HE := hide (show Ext w W by rw [hW]; exact Ext.one _ _)
  have B0 := hide (show W.cell? ⟨w.heap.size, 0, none⟩ = some (.int .i64 s) by rw [hW]; simp)
  have B1 := hide (show W.cell? ⟨w.heap.size, 1, none⟩ = some (.slice A n c) by rw [hW]; simp)
  rw [← hW]
  clear hW
  go_loopw [5, 6] (fun o i wr => ∃ (k : Nat) (Ao : Option Addr) (co : Nat), 2 * k ≤ n2 ∧ i = .int .i64 ((2 * k : Nat) : Int) ∧ o = .slice Ao k co ∧ OwI wr W.heap.size Ao k co ((nextR xs br).take k) ∧ Ext W wr) (fun _ i _ => n2 - (intOf i).toNat)
  case atStart => exact ⟨0, none, 0, by omega, rfl, rfl, by simpa using OwI.nil _ _, Ext.refl _⟩
  case round =>
    obtain ⟨k, Ao, co, hk, rfl, rfl, ho, hE⟩ := hrel
    by_cases hlt : 2 * k < n2
    · obtain ⟨b, off, x, rfl, hbl, hx, wx, hc⟩ := (HI2.out.ext (HE.out.trans hE)).get hlt
      obtain ⟨b', off', y, e, hbl', hy, wy, hc'⟩ := (HI2.out.ext (HE.out.trans hE)).get (k := 2 * k + 1) (by omega)
      cases e
      have hxb := HBR.out x (List.mem_of_getElem? hx)
      have hyb := HBR.out y (List.mem_of_getElem? hy)
      have HN := hide (nextR_take xs hx hy)
      have HO := hide ho; have HER := hide hE
      have HIr := hide (HI.out.ext (HE.out.trans hE))
      have e0 := hE.get B0.out
      have e1 := hE.get B1.out
      have E0 := hide e0; have E1 := hide e1
      clear hx hy ho hE
      have hc2' : wr.cell? ⟨b, off + 2 * k + 1, none⟩ = some (.int .i64 y) := by rw [Nat.add_assoc]; exact hc'
      have hw1 : IntKind.i64.wrap (((2 * k : Nat) : Int) + 1) = ((2 * k : Nat) : Int) + 1 := by rw [IntKind.wrap_i64]; omega
      have hi0 : (0 : Int) ≤ ((2 * k : Nat) : Int) := by omega
      have hi1 : ((2 * k : Nat) : Int) < (n2 : Int) := by omega
      have hi2 : ((2 * k : Nat) : Int) + 1 < (n2 : Int) := by omega
      have hi3 : (((2 * k : Nat) : Int) + 1).toNat = 2 * k + 1 := by omega
      go_wp2
      go_quiet (fail)
      clear hw1 hi3 hc hc' hc2'
      obtain ⟨w2, hw2⟩ : ∃ w2 : World, w2 = wr.drewN nq := ⟨_, rfl⟩
      have HD := hide (show Ext wr w2 by rw [hw2]; exact (Ext.refl _).drewN _)
      have f0 := HD.out.get e0
      have f1 := HD.out.get e1
      rw [← hw2]
      clear hw2 e0 e1
      by_cases hx0 : x < 0
      · have HG := hide (game_yes (xs := xs) (a := x) (b := y) (.inl hx0))
        go_wp2_with ((at_builtin; refine push_ints rfl (.tmp 37) (.tmp 39) rfl rfl (HO.out.ext ((HD.out).trans (Ext.one _ _))) (some ⟨_, 0, none⟩) 1 1 [y] rfl (ints_lit1 _ (base := 0) (y) ⟨by omega, by omega⟩ (Nat.zero_le _)).ints (by omega) (by have := HER.out.size; have := HD.out.size; simp; omega) ?_; intro B1 d1 w3 hb3 hg3 hat3))
        go_roundw
        case rel =>
          refine ⟨k + 1, B1, d1, by omega, by first | go_num | exact congrArg _ (by omega), rfl, by rw [HN.out, HG.out]; exact hb3, ((HER.out.trans HD.out).alloc _).grown hg3 (fun q hq => (HO.out.block q hq).1)⟩
        case measure => (simp [intOf] <;> omega)
      · by_cases hy0 : 0 ≤ y
        · obtain ⟨p, rfl⟩ : ∃ p : Nat, x = (p : Int) := ⟨x.toNat, by omega⟩
          obtain ⟨q, rfl⟩ : ∃ q : Nat, y = (q : Int) := ⟨y.toNat, by omega⟩
          by_cases hq : bts xs q p
          · have HG := hide (game_yes (xs := xs) (a := (p : Int)) (b := (q : Int)) (.inr ⟨hy0, by simpa using hq⟩))
            have HQ := hide (decide_eq_true hq)
            clear hq
            go_wp2_with (first | (go_at_call 68; refine (iBeats_any _ _ _ _ xs _ _ _ (HIr.out.ext HD.out) (by omega) (by omega) HX0.out).mono ?_; rw [HQ.out]; rintro e w9 ⟨rfl, hE9⟩) | (at_builtin; refine push_ints rfl (.tmp 37) (.tmp 39) rfl rfl (HO.out.ext ((HD.out.trans hE9).trans (Ext.one _ _))) (some ⟨_, 0, none⟩) 1 1 [(q : Int)] rfl (ints_lit1 _ (base := 0) ((q : Int)) ⟨by omega, by omega⟩ (Nat.zero_le _)).ints (by omega) (by have := HER.out.size; have := HD.out.size; have := hE9.size; simp; omega) ?_; intro B1 d1 w3 hb3 hg3 hat3))
            go_roundw
            case rel =>
              refine ⟨k + 1, B1, d1, by omega, by first | go_num | exact congrArg _ (by omega), rfl, by rw [HN.out, HG.out]; exact hb3, ((HER.out.trans (HD.out.trans hE9)).alloc _).grown hg3 (fun q hq => (HO.out.block q hq).1)⟩
            case measure => (simp [intOf] <;> omega)
          · have HG := hide (game_no (xs := xs) (a := (p : Int)) (b := (q : Int)) (by rintro (h | ⟨_, h⟩); omega; exact hq (by simpa using h)))
            have HQ := hide (decide_eq_false hq)
            clear hq
            go_wp2_with (first | (go_at_call 68; refine (iBeats_any _ _ _ _ xs _ _ _ (HIr.out.ext HD.out) (by omega) (by omega) HX0.out).mono ?_; rw [HQ.out]; rintro e w9 ⟨rfl, hE9⟩) | (at_builtin; refine push_ints rfl (.tmp 37) (.tmp 39) rfl rfl (HO.out.ext ((HD.out.trans hE9).trans (Ext.one _ _))) (some ⟨_, 0, none⟩) 1 1 [(p : Int)] rfl (ints_lit1 _ (base := 0) ((p : Int)) ⟨by omega, by omega⟩ (Nat.zero_le _)).ints (by omega) (by have := HER.out.size; have := HD.out.size; have := hE9.size; simp; omega) ?_; intro B1 d1 w3 hb3 hg3 hat3))
            go_roundw
            case rel =>
              refine ⟨k + 1, B1, d1, by omega, by first | go_num | exact congrArg _ (by omega), rfl, by rw [HN.out, HG.out]; exact hb3, ((HER.out.trans (HD.out.trans hE9)).alloc _).grown hg3 (fun q hq => (HO.out.block q hq).1)⟩
            case measure => (simp [intOf] <;> omega)
        · have HG := hide (game_no (xs := xs) (a := x) (b := y) (by omega))
          go_wp2_with ((at_builtin; refine push_ints rfl (.tmp 37) (.tmp 39) rfl rfl (HO.out.ext ((HD.out).trans (Ext.one _ _))) (some ⟨_, 0, none⟩) 1 1 [x] rfl (ints_lit1 _ (base := 0) (x) ⟨by omega, by omega⟩ (Nat.zero_le _)).ints (by omega) (by have := HER.out.size; have := HD.out.size; simp; omega) ?_; intro B1 d1 w3 hb3 hg3 hat3))
          go_roundw
          case rel =>
            refine ⟨k + 1, B1, d1, by omega, by first | go_num | exact congrArg _ (by omega), rfl, by rw [HN.out, HG.out]; exact hb3, ((HER.out.trans HD.out).alloc _).grown hg3 (fun q hq => (HO.out.block q hq).1)⟩
          case measure => (simp [intOf] <;> omega)
    · have hke : 2 * k = n2 := by omega
      have HK := hide hke
      have HO := hide ho; have HER := hide hE
      clear hke ho hE
      go_wp2
      go_ret
      refine RetI.mk rfl ((HO.out.mono (by have := HE.out.size; omega)) : OwI _ _ _ _ _ ((nextR xs br).take k)) (HE.out.trans HER.out) |> fun h => ?_
      rw [List.take_of_length_le (by rw [HNL.out, HL2.out]; have := HK.out; omega)] at h
      exact h
-- winner iWinner
theorem iWinner_any (s : Int) (A : Option Addr) (n c : Nat) (xs : List Int) (A2 : Option Addr) (n2 c2 : Nat) (br : List Int) (w : World) (h : Ints w A n c xs) (h2 : Ints w A2 n2 c2 br)
    (ht : tourOk s xs) (hb : brk s br) :
    Calls Tryd.prog 50 #[.agg #[.int .i64 s, .slice A n c], .slice A2 n2 c2] w fun e w' => e = .returned (.int .i64 (winner xs br)) ∧ Ext w w' := by
  have HT := hide ht
  have HB := hide hb
  have HI := hide h; have HI2 := hide h2
  clear h h2 ht hb
  go_enter Tryd.func50, Tryd.ntmps50
  go_wp2
  obtain ⟨W, hW⟩ : ∃ W : World, W = w.alloc (.cells #[.int .i64 s, .slice A n c] 26) := ⟨_, rfl⟩
  have HE := hide (show Ext w W by rw [hW]; exact Ext.one _ _)
  have B0 := hide (show W.cell? ⟨w.heap.size, 0, none⟩ = some (.int .i64 s) by rw [hW]; simp)
  have B1 := hide (show W.cell? ⟨w.heap.size, 1, none⟩ = some (.slice A n c) by rw [hW]; simp)
  rw [← hW]
  clear hW
  go_loopw [1] (fun v wr => ∃ (A' : Option Addr) (n' c' : Nat) (br' : List Int), v = .slice A' n' c' ∧ Hid (Ints wr A' n' c' br' ∧ brk s br' ∧ winner xs br' = winner xs br) ∧ Ext W wr) (fun v _ => slLen v)
  case atStart => exact ⟨A2, n2, c2, br, rfl, hide ⟨HI2.out.ext HE.out, HB.out, rfl⟩, Ext.refl _⟩
  case round =>
    obtain ⟨A', n', c', br', rfl, HR, hE⟩ := hrel
    have e0 := hE.get B0.out
    have e1 := hE.get B1.out
    have HER := hide hE
    have hle := HR.out.1.le
    have hmx := HR.out.1.max
    have HL := hide HR.out.1.len
    have hk := brk_len HR.out.2.1
    rw [HL.out] at hk
    clear hE
    by_cases hlt : 1 < n'
    · have HN := hide (nextR_len xs br')
      have h1 : 1 < br'.length := by rw [HL.out]; exact hlt
      have HS := hide (winner_step (xs := xs) h1)
      have H1 := hide h1
      clear h1
      go_wp2_with (go_at_call 66; refine (iNext_any _ _ _ _ xs _ _ _ br' _ (HI.out.ext (HE.out.trans HER.out)) HR.out.1 HT.out HR.out.2.1 H1.out).mono ?_; rintro e w9 ⟨B, d, rfl, ho9, hE9⟩)
      go_roundw
      case rel => exact ⟨B, (nextR xs br').length, d, nextR xs br', rfl, hide ⟨ho9.ints, brk_next xs HR.out.2.1 H1.out, by rw [← HS.out]; exact HR.out.2.2⟩, HER.out.trans hE9⟩
      case measure => (simp [slLen]; have := HN.out; have := HL.out; omega)
    · have hn1 : n' ≤ 1 := by omega
      obtain ⟨b, off, x, rfl, hb, hx, wx, hc⟩ := HR.out.1.get (k := 0) (by omega)
      simp only [Nat.add_zero] at hc
      have HX := hide hx
      have HW := hide (winner_end (xs := xs) (br := br') (by have := HL.out; omega))
      clear hx
      go_wp2
      go_ret
      exact ⟨ret_int (by rw [← HR.out.2.2, HW.out, List.getD, HX.out]; rfl), HE.out.trans HER.out⟩
-- impl.NextRound
theorem iNextRound_any (s : Int) (A : Option Addr) (n c : Nat) (xs : List Int) (A2 : Option Addr) (n2 c2 : Nat) (br : List Int) (w : World) (h : Ints w A n c xs) (h2 : Ints w A2 n2 c2 br) :
    Calls Tryd.prog 26 #[.agg #[.int .i64 s, .slice A n c], .slice A2 n2 c2] w (RetI w ((nextRound s xs br))) := by
  have H_h := hide h
  have H_h2 := hide h2
  have HL2 := hide h2.len
  have HE0 := hide (Ext.one w (.cells #[.int .i64 s, .slice A n c] 26))
  have b0_0 : (w.alloc (.cells #[.int .i64 s, .slice A n c] 26)).cell? ⟨w.heap.size, 0, none⟩ = some (.int .i64 s) := by simp
  have b1_0 : (w.alloc (.cells #[.int .i64 s, .slice A n c] 26)).cell? ⟨w.heap.size, 1, none⟩ = some (.slice A n c) := by simp
  clear h h2
  by_cases hp1 : bracketOk s xs br
  · skip
    have HP1 := hide hp1
    by_cases hp2 : ¬ n2 = 1
    · skip
      have HP2 := hide hp2
      have hb1 : ((n2 : Int) == 1) = false := by simp; omega
      have H1 := hide (show 1 < br.length by have := (brk_len hp1.2).1; have := HL2.out; omega)
      have HF := hide (show (nextRound s xs br) = nextR xs br from (by unfold nextRound; rw [if_pos ⟨hp1, by rw [HL2.out]; exact hp2⟩]))
      clear hp1 hp2
      go_enter Tryd.func26, Tryd.ntmps26
      go_wp2_with (first | (go_at_call 12; refine (iBracketOk_any _ _ _ _ xs _ _ _ br _ (H_h.out.ext HE0.out) (H_h2.out.ext HE0.out)).mono ?_; rw [decide_eq_true HP1.out]; rintro e w1 ⟨rfl, hE1⟩; have b0_1 := hE1.get b0_0; have b1_1 := hE1.get b1_0) | (go_at_call 66; refine (iNext_any _ _ _ _ xs _ _ _ br _ (H_h.out.ext (HE0.out.trans hE1)) (H_h2.out.ext (HE0.out.trans hE1)) HP1.out.1 HP1.out.2 H1.out).mono ?_; rintro e w2 ⟨B2, d2, rfl, ho2, hE2⟩; have b0_2 := hE2.get b0_1; have b1_2 := hE2.get b1_1))
      go_ret
      rw [HF.out]
      exact RetI.mk rfl (ho2.mono (by have := (HE0.out.trans hE1).size; omega)) ((HE0.out.trans hE1).trans hE2)
    · have HP2 := hide hp2
      have HF := hide (show (nextRound s xs br) = [] from by
        unfold nextRound
        rw [if_neg]
        intro hh; exact HP2.out (by have := hh.2; rwa [HL2.out] at this))
      have hb1 : ((n2 : Int) == 1) = true := by simp; omega
      clear hp1 hp2
      go_enter Tryd.func26, Tryd.ntmps26
      go_wp2_with (first | (go_at_call 12; refine (iBracketOk_any _ _ _ _ xs _ _ _ br _ (H_h.out.ext HE0.out) (H_h2.out.ext HE0.out)).mono ?_; rw [decide_eq_true HP1.out]; rintro e w1 ⟨rfl, hE1⟩; have b0_1 := hE1.get b0_0; have b1_1 := hE1.get b1_0))
      go_ret
      rw [HF.out]
      exact RetI.mk rfl (OwI.nil _ _) (HE0.out.trans hE1)
  · have HP1 := hide hp1
    have HF := hide (show (nextRound s xs br) = [] from by
      unfold nextRound
      rw [if_neg]
      intro hh; exact HP1.out (by first | exact hh.1 | exact hh.2.1 | exact hh.2.2.1 | exact hh.2.2 | exact hh.2.2.2 | exact hh.2.2.2.1 | exact hh | (have := hh; omega) | simp_all))
    clear hp1
    go_enter Tryd.func26, Tryd.ntmps26
    go_wp2_with (first | (go_at_call 12; refine (iBracketOk_any _ _ _ _ xs _ _ _ br _ (H_h.out.ext HE0.out) (H_h2.out.ext HE0.out)).mono ?_; rw [decide_eq_false HP1.out]; rintro e w1 ⟨rfl, hE1⟩; have b0_1 := hE1.get b0_0; have b1_1 := hE1.get b1_0))
    go_ret
    rw [HF.out]
    exact RetI.mk rfl (OwI.nil _ _) (HE0.out.trans hE1)
-- impl.WinnerOf
theorem iWinnerOf_any (s : Int) (A : Option Addr) (n c : Nat) (xs : List Int) (A2 : Option Addr) (n2 c2 : Nat) (br : List Int) (w : World) (h : Ints w A n c xs) (h2 : Ints w A2 n2 c2 br) :
    Calls Tryd.prog 13 #[.agg #[.int .i64 s, .slice A n c], .slice A2 n2 c2] w fun e w' => e = .returned (.int .i64 (winnerOf s xs br)) ∧ Ext w w' := by
  have H_h := hide h
  have H_h2 := hide h2
  have HE0 := hide (Ext.one w (.cells #[.int .i64 s, .slice A n c] 26))
  have b0_0 : (w.alloc (.cells #[.int .i64 s, .slice A n c] 26)).cell? ⟨w.heap.size, 0, none⟩ = some (.int .i64 s) := by simp
  have b1_0 : (w.alloc (.cells #[.int .i64 s, .slice A n c] 26)).cell? ⟨w.heap.size, 1, none⟩ = some (.slice A n c) := by simp
  clear h h2
  by_cases hp1 : bracketOk s xs br
  · skip
    have HP1 := hide hp1
    have HF := hide (show (winnerOf s xs br) = winner xs br from (by unfold winnerOf; rw [if_pos hp1]))
    clear hp1
    go_enter Tryd.func13, Tryd.ntmps13
    go_wp2_with (first | (go_at_call 12; refine (iBracketOk_any _ _ _ _ xs _ _ _ br _ (H_h.out.ext HE0.out) (H_h2.out.ext HE0.out)).mono ?_; rw [decide_eq_true HP1.out]; rintro e w1 ⟨rfl, hE1⟩; have b0_1 := hE1.get b0_0; have b1_1 := hE1.get b1_0) | (go_at_call 50; refine (iWinner_any _ _ _ _ xs _ _ _ br _ (H_h.out.ext (HE0.out.trans hE1)) (H_h2.out.ext (HE0.out.trans hE1)) HP1.out.1 HP1.out.2).mono ?_; rintro e w2 ⟨rfl, hE2⟩; have b0_2 := hE2.get b0_1; have b1_2 := hE2.get b1_1))
    go_ret
    exact ⟨ret_int HF.out.symm, ((HE0.out.trans hE1).trans hE2)⟩
  · have HP1 := hide hp1
    have HF := hide (show (winnerOf s xs br) = -1 from by
      unfold winnerOf
      rw [if_neg]
      intro hh; exact HP1.out (by first | exact hh.1 | exact hh.2.1 | exact hh.2.2.1 | exact hh.2.2 | exact hh.2.2.2 | exact hh.2.2.2.1 | exact hh | (have := hh; omega) | simp_all))
    clear hp1
    go_enter Tryd.func13, Tryd.ntmps13
    go_wp2_with (first | (go_at_call 12; refine (iBracketOk_any _ _ _ _ xs _ _ _ br _ (H_h.out.ext HE0.out) (H_h2.out.ext HE0.out)).mono ?_; rw [decide_eq_false HP1.out]; rintro e w1 ⟨rfl, hE1⟩; have b0_1 := hE1.get b0_0; have b1_1 := hE1.get b1_0))
    go_ret
    exact ⟨ret_int HF.out.symm, (HE0.out.trans hE1)⟩

end Go.Proofs.YtbaljgdepicigaaDoor
