/-
  Contracts of the functions that list whom a player beats in a bracket.
-/
import Derived.Laws.ShiftsVar
import Derived.Deep.RegionHeld3
import Derived.Test.YtbaljgdepicigaaDoorBase
import Derived.Test.YtbaljgdepicigaaDoorMgA
import Derived.Test.YtbaljgdepicigaaDoorLib
import Derived.Test.YtbaljgdepicigaaDoorAid
import Derived.Test.YtbaljgdepicigaaDoorGrid
import Derived.Test.YtbaljgdepicigaaDoorLibF
import Derived.Test.YtbaljgdepicigaaDoorMathV
import Derived.Test.YtbaljgdepicigaaDoorSeed
import Derived.Test.YtbaljgdepicigaaDoorTour
import Derived.Test.YtbaljgdepicigaaDoorTourB
import Derived.Test.YtbaljgdepicigaaDoorBrack
import Derived.Test.YtbaljgdepicigaaDoorStep
import Derived.Test.YtbaljgdepicigaaDoorBrackB
import Derived.Test.YtbaljgdepicigaaDoorBrackC
namespace Go.Proofs.YtbaljgdepicigaaDoor
open Go.RowKit
set_option linter.unusedVariables false

-- words
theorem sep_push {A' Ao B1 : Option Addr} {wx : World} (hb : ∀ k, A'.map (·.block) = some k → k < wx.heap.size) (hne : A'.map (·.block) ≠ Ao.map (·.block)) (hat : B1.map (·.block) = Ao.map (·.block) ∨ B1.map (·.block) = some wx.heap.size) : A'.map (·.block) ≠ B1.map (·.block) := by
  rcases hat with e | e
  · rw [e]; exact hne
  · rw [e]; intro e2; have := hb _ e2; omega
theorem sep_new {w : World} {base : Nat} {A B : Option Addr} {n c : Nat} {xs ys : List Int} {w0 : World} {n' c' base' : Nat} (hA : OwI w base A n c xs) (hw : w0.heap.size ≤ base) (hB : OwI w0 base' B n' c' ys) (h0 : A ≠ none) : A.map (·.block) ≠ B.map (·.block) := by
  cases A with
  | none => exact absurd rfl h0
  | some p =>
    intro e
    have h1 := (hA.block p.block rfl).1
    have h2 := (hB.block p.block e.symm).2
    omega
theorem Ints.some_ {w : World} {A : Option Addr} {n c : Nat} {xs : List Int} (h : Ints w A n c xs) (hn : 0 < n) : A ≠ none ∧ ∀ k, A.map (·.block) = some k → k < w.heap.size := by
  obtain ⟨b, off, x, e, hb, _⟩ := h.get hn
  subst e
  exact ⟨by simp, fun k hk => by simp at hk; omega⟩
theorem Ints.grown_ext {w w1 w2 : World} {row : Option Nat} {A : Option Addr} {n c : Nat} {xs : List Int} (h : Ints w A n c xs) (hE : Ext w w1) (hg : w1.grownBy w2 row) (hr : A.map (·.block) ≠ row ∨ A = none) : Ints w2 A n c xs := (h.ext hE).grown hg hr
theorem h2_some {s : Int} {w : World} {A : Option Addr} {n c : Nat} {br : List Int} (hb : brk s br) (h : Ints w A n c br) : A ≠ none := (h.some_ (by have := brk_len hb; have := h.len; omega)).1
-- impl.BeatenBy
set_option maxHeartbeats 1000000 in
theorem iBeatenBy_any (s : Int) (A : Option Addr) (n c : Nat) (xs : List Int) (A2 : Option Addr) (n2 c2 : Nat) (br : List Int) (a : Int) (w : World) (h : Ints w A n c xs) (h2 : Ints w A2 n2 c2 br) :
    Calls Tryd.prog 23 #[.agg #[.int .i64 s, .slice A n c], .slice A2 n2 c2, .int .i64 a] w (RetI w ((beatenBy s xs br a))) := by
  have H_h := hide h
  have H_h2 := hide h2
  have HL2 := hide h2.len
  have HE0 := hide (Ext.one w (.cells #[.int .i64 s, .slice A n c] 26))
  have b0_0 : (w.alloc (.cells #[.int .i64 s, .slice A n c] 26)).cell? ⟨w.heap.size, 0, none⟩ = some (.int .i64 s) := by simp
  have b1_0 : (w.alloc (.cells #[.int .i64 s, .slice A n c] 26)).cell? ⟨w.heap.size, 1, none⟩ = some (.slice A n c) := by simp
  clear h h2
  by_cases hp1 : bracketOk s xs br
  · skip
    have HP1 := hide hp1
    have HX0 := hide (fun x hx => (tourOk_row hp1.1 x hx).1)
    have HS2 := hide ((h2_some HP1.out.2 H_h2.out))
    have HF := hide (show (beatenBy s xs br a) = beaten xs a br from (by unfold beatenBy; rw [if_pos hp1]))
    clear hp1
    go_enter Tryd.func23, Tryd.ntmps23
    go_wp2_with (first | (go_at_call 12; refine (iBracketOk_any _ _ _ _ xs _ _ _ br _ (H_h.out.ext HE0.out) (H_h2.out.ext HE0.out)).mono ?_; rw [decide_eq_true HP1.out]; rintro e w1 ⟨rfl, hE1⟩; have b0_1 := hE1.get b0_0; have b1_1 := hE1.get b1_0))
    have HE := hide (HE0.out.trans hE1)
    have HW2 := hide (H_h2.out.ext (HE0.out.trans hE1))
    have B0 := hide b0_1; have B1 := hide b1_1
    clear b0_0 b1_0 b0_1 b1_1 hE1
    go_loopw [1, 7] (fun v o wr => ∃ (A' : Option Addr) (n' c' : Nat) (br' : List Int) (Ao : Option Addr) (no co : Nat) (L : List Int), v = .slice A' n' c' ∧ o = .slice Ao no co ∧ Hid (Ints wr A' n' c' br' ∧ brk s br' ∧ L ++ beaten xs a br' = beaten xs a br) ∧ Hid (OwI wr w1.heap.size Ao no co L ∧ A'.map (·.block) ≠ Ao.map (·.block)) ∧ Ext w1 wr) (fun v _ _ => slLen v)
    case atStart => exact ⟨_, _, _, br, none, 0, 0, [], rfl, rfl, hide ⟨HW2.out, HP1.out.2, rfl⟩, hide ⟨OwI.nil _ _, by have := HS2.out; cases A2 <;> simp_all⟩, Ext.refl _⟩
    case round =>
      obtain ⟨A', n', c', br', Ao, no, co, L, rfl, rfl, HR, HO, hE⟩ := hrel
      have HER := hide hE
      have hle := HR.out.1.le
      have hmx := HR.out.1.max
      have HL := hide HR.out.1.len
      have hk := brk_len HR.out.2.1
      rw [HL.out] at hk
      have HLL := hide (show L.length ≤ 8 by
        have h1 := beaten_len xs a HP1.out.2
        have h2 := brk_len HP1.out.2
        have h3 := congrArg List.length HR.out.2.2
        rw [List.length_append] at h3
        omega)
      have hno : no ≤ 8 := by have := HO.out.1.len; have := HLL.out; omega
      have e0 := hE.get B0.out
      have e1 := hE.get B1.out
      clear hE
      by_cases hlt : 1 < n'
      · have h1 : 1 < br'.length := by rw [HL.out]; exact hlt
        have H1 := hide h1
        have HST := hide (beaten_step (xs := xs) (a := a) h1)
        clear h1
        have HN := hide (nextR_len xs br')
        have HS0 := hide (HR.out.1.some_ (by omega))
        by_cases ha0 : 0 ≤ a
        · by_cases hm : a ∈ br'
          · have HSP := hide (beatTo_spot (xs := xs) HR.out.2.1.2.2.2 ha0 hm)
            have HGS := hide (getD_spot hm)
            have HIA := hide (idx_spot hm)
            have hpl := spot_lt hm
            rw [HL.out] at hpl
            obtain ⟨p, rfl⟩ : ∃ p : Nat, a = (p : Int) := ⟨a.toNat, by omega⟩
            have HPR := hide (HR.out.2.1.2.1 _ hm)
            clear hm
            have hmt := mate_lt_n HR.out.2.1 H1.out (i := spot br' (p : Int)) (by have := HL.out; omega)
            rw [HL.out] at hmt
            obtain ⟨bb, off, y, rfl, hbl, hy, wy, hc⟩ := HR.out.1.get hmt.1
            have GY := hide (show br'.getD (mate (spot br' (p : Int))) (-1) = y by rw [List.getD, hy]; rfl)
            have hyb := HR.out.2.1.2.1 y (List.mem_of_getElem? hy)
            have hxor := xor_mate (spot br' (p : Int)) hmt.2
            have HY1 := hide (beatAt_yes (xs := xs) HGS.out GY.out)
            have HY0 := hide (beatAt_not (xs := xs) (a := (p : Int)) GY.out)
            clear hy
            generalize hsp : spot br' (p : Int) = q at *
            have HSQ := hide hsp; clear hsp
            have hs8 := HP1.out.1.1
            have hpn : p < n := by have h7 := HPR.out; have h8 := HP1.out.1.2.1; have := H_h.out.len; omega
            by_cases hy0 : 0 ≤ y
            · obtain ⟨z, rfl⟩ : ∃ z : Nat, y = (z : Int) := ⟨y.toNat, by omega⟩
              by_cases hb : bts xs p z
              · have HBT := hide (HY1.out hy0 ha0 (by simpa using hb))
                have HQ := hide (decide_eq_true hb)
                clear hb
                go_wp2_with (first | (go_at_call 67; refine (Index_any _ _ _ br' _ _ HR.out.1).mono ?_; rw [HIA.out]; rintro e w' ⟨rfl, rfl⟩) | (go_at_call 68; refine (iBeats_any _ _ _ _ xs _ _ _ (H_h.out.ext (HE.out.trans HER.out)) hpn (by omega) HX0.out).mono ?_; rw [HQ.out]; rintro e w5 ⟨rfl, hE5⟩; have f0 := hE5.get e0; have f1 := hE5.get e1) | (at_builtin; refine push_ints rfl (.tmp 42) (.tmp 44) rfl rfl (HO.out.1.ext (hE5.trans (Ext.one _ _))) (some ⟨_, 0, none⟩) 1 1 [(z : Int)] rfl (ints_lit1 _ (base := 0) (z : Int) ⟨by omega, by omega⟩ (Nat.zero_le _)).ints (by omega) (by have := HER.out.size; have := hE5.size; simp; omega) ?_; intro B1' d1 w6 hb6 hg6 hat6; have hE6 : Ext w1 w6 := ((HER.out.trans hE5).alloc _).grown hg6 (fun q hq => (HO.out.1.block q hq).1); have g0 := hE6.get B0.out; have g1 := hE6.get B1.out) | (go_at_call 66; refine (iNext_any _ _ _ _ xs _ _ _ br' _ (H_h.out.ext (HE.out.trans hE6)) (HR.out.1.grown_ext (hE5.trans (Ext.one _ _)) hg6 (.inl HO.out.2)) HP1.out.1 HR.out.2.1 H1.out).mono ?_; rintro e w9 ⟨B, d, rfl, ho9, hE9⟩))
                go_roundw
                case rel =>
                  have hn9 := brk_len (brk_next xs HR.out.2.1 H1.out)
                  exact ⟨B, (nextR xs br').length, d, nextR xs br', _, _, _, L ++ [(z : Int)], rfl, rfl, hide ⟨ho9.ints, brk_next xs HR.out.2.1 H1.out, by rw [← HR.out.2.2, HST.out, HSP.out, HBT.out, List.append_assoc]⟩, hide ⟨(hb6).ext hE9, sep_new ho9 (Nat.le_refl _) (hb6) ((ho9.ints.some_ (by omega)).1)⟩, (hE6).trans hE9⟩
                case measure => (simp [slLen]; have := HN.out; have := HL.out; omega)
              · have HBT := hide (HY0.out (fun hh => hb (by simpa using hh.2.2.2)))
                have HQ := hide (decide_eq_false hb)
                clear hb
                go_wp2_with (first | (go_at_call 67; refine (Index_any _ _ _ br' _ _ HR.out.1).mono ?_; rw [HIA.out]; rintro e w' ⟨rfl, rfl⟩) | (go_at_call 68; refine (iBeats_any _ _ _ _ xs _ _ _ (H_h.out.ext (HE.out.trans HER.out)) hpn (by omega) HX0.out).mono ?_; rw [HQ.out]; rintro e w5 ⟨rfl, hE5⟩; have f0 := hE5.get e0; have f1 := hE5.get e1) | (go_at_call 66; refine (iNext_any _ _ _ _ xs _ _ _ br' _ (H_h.out.ext (HE.out.trans (HER.out.trans hE5))) (HR.out.1.ext hE5) HP1.out.1 HR.out.2.1 H1.out).mono ?_; rintro e w9 ⟨B, d, rfl, ho9, hE9⟩))
                go_roundw
                case rel =>
                  have hn9 := brk_len (brk_next xs HR.out.2.1 H1.out)
                  exact ⟨B, (nextR xs br').length, d, nextR xs br', _, _, _, L, rfl, rfl, hide ⟨ho9.ints, brk_next xs HR.out.2.1 H1.out, by rw [← HR.out.2.2, HST.out, HSP.out, HBT.out, List.nil_append]⟩, hide ⟨(HO.out.1.ext hE5).ext hE9, sep_new ho9 (Nat.le_refl _) (HO.out.1.ext hE5) ((ho9.ints.some_ (by omega)).1)⟩, ((HER.out.trans hE5)).trans hE9⟩
                case measure => (simp [slLen]; have := HN.out; have := HL.out; omega)
            · have HBT := hide (HY0.out (fun hh => hy0 hh.2.1))
              go_wp2_with (first | (go_at_call 67; refine (Index_any _ _ _ br' _ _ HR.out.1).mono ?_; rw [HIA.out]; rintro e w' ⟨rfl, rfl⟩) | (go_at_call 66; refine (iNext_any _ _ _ _ xs _ _ _ br' _ (H_h.out.ext (HE.out.trans HER.out)) HR.out.1 HP1.out.1 HR.out.2.1 H1.out).mono ?_; rintro e w9 ⟨B, d, rfl, ho9, hE9⟩))
              go_roundw
              case rel =>
                have hn9 := brk_len (brk_next xs HR.out.2.1 H1.out)
                exact ⟨B, (nextR xs br').length, d, nextR xs br', _, _, _, L, rfl, rfl, hide ⟨ho9.ints, brk_next xs HR.out.2.1 H1.out, by rw [← HR.out.2.2, HST.out, HSP.out, HBT.out, List.nil_append]⟩, hide ⟨(HO.out.1).ext hE9, sep_new ho9 (Nat.le_refl _) (HO.out.1) ((ho9.ints.some_ (by omega)).1)⟩, (HER.out).trans hE9⟩
              case measure => (simp [slLen]; have := HN.out; have := HL.out; omega)
          · obtain ⟨ma, hia, hma0⟩ := idx_none hm; have HIA := hide hia; clear hia
            have HOUT := hide (beaten_out xs a br' (fun hh => hm hh.2))
            clear hm
            go_wp2_with (first | (go_at_call 67; refine (Index_any _ _ _ br' _ _ HR.out.1).mono ?_; rw [HIA.out]; rintro e w' ⟨rfl, rfl⟩))
            go_ret
            rw [HF.out, ← HR.out.2.2, HOUT.out, List.append_nil]
            exact RetI.mk rfl (HO.out.1.mono (by have := HE.out.size; omega)) (HE.out.trans HER.out)
        · have HIA : Hid (∃ m, idx br' a = m) := hide ⟨_, rfl⟩
          obtain ⟨m, hm⟩ := HIA.out
          have HIA := hide hm
          have HOUT := hide (beaten_out xs a br' (fun hh => ha0 hh.1))
          clear hm
          go_wp2_with (first | (go_at_call 67; refine (Index_any _ _ _ br' _ _ HR.out.1).mono ?_; rw [HIA.out]; rintro e w' ⟨rfl, rfl⟩))
          go_ret
          rw [HF.out, ← HR.out.2.2, HOUT.out, List.append_nil]
          exact RetI.mk rfl (HO.out.1.mono (by have := HE.out.size; omega)) (HE.out.trans HER.out)
      · have HOUT := hide (beaten_end (xs := xs) (a := a) (br := br') (by have := HL.out; omega))
        go_wp2
        go_ret
        rw [HF.out, ← HR.out.2.2, HOUT.out, List.append_nil]
        exact RetI.mk rfl (HO.out.1.mono (by have := HE.out.size; omega)) (HE.out.trans HER.out)
  · have HP1 := hide hp1
    have HF := hide (show (beatenBy s xs br a) = [] from by
      unfold beatenBy
      rw [if_neg]
      intro hh; exact HP1.out (by first | exact hh.1 | exact hh.2.1 | exact hh.2.2.1 | exact hh.2.2 | exact hh.2.2.2 | exact hh.2.2.2.1 | exact hh | (have := hh; omega) | simp_all))
    clear hp1
    go_enter Tryd.func23, Tryd.ntmps23
    go_wp2_with (first | (go_at_call 12; refine (iBracketOk_any _ _ _ _ xs _ _ _ br _ (H_h.out.ext HE0.out) (H_h2.out.ext HE0.out)).mono ?_; rw [decide_eq_false HP1.out]; rintro e w1 ⟨rfl, hE1⟩; have b0_1 := hE1.get b0_0; have b1_1 := hE1.get b1_0))
    go_ret
    rw [HF.out]
    exact RetI.mk rfl (OwI.nil _ _) (HE0.out.trans hE1)

end Go.Proofs.YtbaljgdepicigaaDoor
