/-
  Contracts of the functions that play rounds of brackets.
-/
import Derived.Laws.ShiftsVar
import Derived.Deep.RegionHeld3
import Derived.Test.YtbaljgdepicigaaBase
import Derived.Test.YtbaljgdepicigaaMathA
import Derived.Test.YtbaljgdepicigaaMathD
import Derived.Test.YtbaljgdepicigaaLib
import Derived.Test.YtbaljgdepicigaaAid
import Derived.Test.YtbaljgdepicigaaGrid
import Derived.Test.YtbaljgdepicigaaLibF
import Derived.Test.YtbaljgdepicigaaMathB
import Derived.Test.YtbaljgdepicigaaMathU
import Derived.Test.YtbaljgdepicigaaSeed
import Derived.Test.YtbaljgdepicigaaTour
import Derived.Test.YtbaljgdepicigaaTourB
import Derived.Test.YtbaljgdepicigaaBrack
import Derived.Test.YtbaljgdepicigaaStep
namespace Go.Proofs.Ytbaljgdepicigaa
open Go.RowKit
set_option linter.unusedVariables false
set_option maxRecDepth 100000

-- words
theorem game_yes {xs : List Int} {a b : Int} (h : a < 0 ∨ 0 ≤ b ∧ bts xs b.toNat a.toNat) : game xs a b = b := if_pos h
theorem game_no {xs : List Int} {a b : Int} (h : ¬ (a < 0 ∨ 0 ≤ b ∧ bts xs b.toNat a.toNat)) : game xs a b = a := if_neg h
theorem even_len {s : Int} {br : List Int} (h : brk s br) (h1 : 1 < br.length) : br.length % 2 = 0 := by have := h.1; unfold brkSize at this; omega
theorem tourOk_sz {s : Int} {xs : List Int} {n : Nat} (h : tourOk s xs) (hl : xs.length = n) : 1 ≤ n ∧ n ≤ 8 ∧ s ≤ n ∧ n ≤ s := by have := tourOk_size h; omega
def slLen : Value → Nat | .slice _ n _ => n | _ => 0
-- nextRound impl
theorem iNext_any (s : Int) (A : Option Addr) (n c : Nat) (xs : List Int) (A2 : Option Addr) (n2 c2 : Nat) (br : List Int) (w : World) (h : Ints w A n c xs) (h2 : Ints w A2 n2 c2 br)
    (ht : tourOk s xs) (hb : brk s br) (h1 : 1 < br.length) :
    Calls Try.prog 166 #[.agg #[.int .i64 s, .slice A n c], .slice A2 n2 c2] w (RetI w (nextR xs br)) := by
  have HL := hide h.len; have HL2 := hide h2.len
  have hle2 := h2.le
  have hmx2 := h2.max
  have hs8 := tourOk_sz ht HL.out
  have hn28 := brk_len hb
  rw [HL2.out] at h1 hn28
  have hev : n2 % 2 < 1 := by have := even_len hb (by rw [HL2.out]; exact h1); rw [HL2.out] at this; omega
  have HX0 := hide (fun x hx => (tourOk_row ht x hx).1)
  have HBR := hide hb.2.1
  have HI := hide h; have HI2 := hide h2
  have HNL := hide (nextR_len xs br)
  clear h h2 ht hb
  go_enter Try.func166, Try.ntmps166
  go_wp2
  obtain ⟨W, hW⟩ : ∃ W : World, W = w.alloc (.cells #[.int .i64 s, .slice A n c] 33) := ⟨_, rfl⟩
  have HE := hide (show Ext w W by rw [hW]; exact Ext.one _ _)
  have B0 := hide (show W.cell? ⟨w.heap.size, 0, none⟩ = some (.int .i64 s) by rw [hW]; simp)
  have B1 := hide (show W.cell? ⟨w.heap.size, 1, none⟩ = some (.slice A n c) by rw [hW]; simp)
  rw [← hW]
  clear hW
  go_loopw [5, 6] (fun o i wr => ∃ (k : Nat) (Ao : Option Addr) (co : Nat), 2 * k ≤ n2 ∧ i = .int .i64 ((2 * k : Nat) : Int) ∧ o = .slice Ao k co ∧ OwI wr W.heap.size Ao k co ((nextR xs br).take k) ∧ Ext W wr) (fun _ i _ => n2 - (intOf i).toNat)
  case atStart => exact ⟨0, none, 0, by omega, rfl, rfl, by simpa using OwI.nil _ _, Ext.refl _⟩
  case round =>
    obtain ⟨k, Ao, co, hk, rfl, rfl, ho, hE⟩ := hrel
    by_cases hlt : 2 * k < n2
    · obtain ⟨b, off, x, rfl, hbl, hx, wx, hc⟩ := (HI2.out.ext (HE.out.trans hE)).get hlt
      obtain ⟨b', off', y, e, hbl', hy, wy, hc'⟩ := (HI2.out.ext (HE.out.trans hE)).get (k := 2 * k + 1) (by omega)
      cases e
      have hxb := HBR.out x (List.mem_of_getElem? hx)
      have hyb := HBR.out y (List.mem_of_getElem? hy)
      have HN := hide (nextR_take xs hx hy)
      have HO := hide ho; have HER := hide hE
      have HIr := hide (HI.out.ext (HE.out.trans hE))
      have e0 := hE.get B0.out
      have e1 := hE.get B1.out
      have E0 := hide e0; have E1 := hide e1
      clear hx hy ho hE
      have hc2' : wr.cell? ⟨b, off + 2 * k + 1, none⟩ = some (.int .i64 y) := by rw [Nat.add_assoc]; exact hc'
      have hw1 : IntKind.i64.wrap (((2 * k : Nat) : Int) + 1) = ((2 * k : Nat) : Int) + 1 := by rw [IntKind.wrap_i64]; omega
      have hi0 : (0 : Int) ≤ ((2 * k : Nat) : Int) := by omega
      have hi1 : ((2 * k : Nat) : Int) < (n2 : Int) := by omega
      have hi2 : ((2 * k : Nat) : Int) + 1 < (n2 : Int) := by omega
      have hi3 : (((2 * k : Nat) : Int) + 1).toNat = 2 * k + 1 := by omega
      go_wp2
      go_quiet (fail)
      clear hw1 hi3 hc hc' hc2'
      obtain ⟨w2, hw2⟩ : ∃ w2 : World, w2 = wr.drewN nq := ⟨_, rfl⟩
      have HD := hide (show Ext wr w2 by rw [hw2]; exact (Ext.refl _).drewN _)
      have f0 := HD.out.get e0
      have f1 := HD.out.get e1
      rw [← hw2]
      clear hw2 e0 e1
      by_cases hx0 : x < 0
      · have HG := hide (game_yes (xs := xs) (a := x) (b := y) (.inl hx0))
        go_wp2_with ((at_builtin; refine push_ints rfl (.tmp 37) (.tmp 39) rfl rfl (HO.out.ext ((HD.out).trans (Ext.one _ _))) (some ⟨_, 0, none⟩) 1 1 [y] rfl (ints_lit1 _ (base := 0) (y) ⟨by omega, by omega⟩ (Nat.zero_le _)).ints (by omega) (by have := HER.out.size; have := HD.out.size; simp; omega) ?_; intro B1 d1 w3 hb3 hg3 hat3))
        go_roundw
        case rel =>
          refine ⟨k + 1, B1, d1, by omega, by first | go_num | exact congrArg _ (by omega), rfl, by rw [HN.out, HG.out]; exact hb3, ((HER.out.trans HD.out).alloc _).grown hg3 (fun q hq => (HO.out.block q hq).1)⟩
        case measure => (simp [intOf] <;> omega)
      · by_cases hy0 : 0 ≤ y
        · obtain ⟨p, rfl⟩ : ∃ p : Nat, x = (p : Int) := ⟨x.toNat, by omega⟩
          obtain ⟨q, rfl⟩ : ∃ q : Nat, y = (q : Int) := ⟨y.toNat, by omega⟩
          by_cases hq : bts xs q p
          · have HG := hide (game_yes (xs := xs) (a := (p : Int)) (b := (q : Int)) (.inr ⟨hy0, by simpa using hq⟩))
            have HQ := hide (decide_eq_true hq)
            clear hq
            go_wp2_with (first | (go_at_call 95; refine (iBeats_any _ _ _ _ xs _ _ _ (HIr.out.ext HD.out) (by omega) (by omega) HX0.out).mono ?_; rw [HQ.out]; rintro e w9 ⟨rfl, hE9⟩) | (at_builtin; refine push_ints rfl (.tmp 37) (.tmp 39) rfl rfl (HO.out.ext ((HD.out.trans hE9).trans (Ext.one _ _))) (some ⟨_, 0, none⟩) 1 1 [(q : Int)] rfl (ints_lit1 _ (base := 0) ((q : Int)) ⟨by omega, by omega⟩ (Nat.zero_le _)).ints (by omega) (by have := HER.out.size; have := HD.out.size; have := hE9.size; simp; omega) ?_; intro B1 d1 w3 hb3 hg3 hat3))
            go_roundw
            case rel =>
              refine ⟨k + 1, B1, d1, by omega, by first | go_num | exact congrArg _ (by omega), rfl, by rw [HN.out, HG.out]; exact hb3, ((HER.out.trans (HD.out.trans hE9)).alloc _).grown hg3 (fun q hq => (HO.out.block q hq).1)⟩
            case measure => (simp [intOf] <;> omega)
          · have HG := hide (game_no (xs := xs) (a := (p : Int)) (b := (q : Int)) (by rintro (h | ⟨_, h⟩); omega; exact hq (by simpa using h)))
            have HQ := hide (decide_eq_false hq)
            clear hq
            go_wp2_with (first | (go_at_call 95; refine (iBeats_any _ _ _ _ xs _ _ _ (HIr.out.ext HD.out) (by omega) (by omega) HX0.out).mono ?_; rw [HQ.out]; rintro e w9 ⟨rfl, hE9⟩) | (at_builtin; refine push_ints rfl (.tmp 37) (.tmp 39) rfl rfl (HO.out.ext ((HD.out.trans hE9).trans (Ext.one _ _))) (some ⟨_, 0, none⟩) 1 1 [(p : Int)] rfl (ints_lit1 _ (base := 0) ((p : Int)) ⟨by omega, by omega⟩ (Nat.zero_le _)).ints (by omega) (by have := HER.out.size; have := HD.out.size; have := hE9.size; simp; omega) ?_; intro B1 d1 w3 hb3 hg3 hat3))
            go_roundw
            case rel =>
              refine ⟨k + 1, B1, d1, by omega, by first | go_num | exact congrArg _ (by omega), rfl, by rw [HN.out, HG.out]; exact hb3, ((HER.out.trans (HD.out.trans hE9)).alloc _).grown hg3 (fun q hq => (HO.out.block q hq).1)⟩
            case measure => (simp [intOf] <;> omega)
        · have HG := hide (game_no (xs := xs) (a := x) (b := y) (by omega))
          go_wp2_with ((at_builtin; refine push_ints rfl (.tmp 37) (.tmp 39) rfl rfl (HO.out.ext ((HD.out).trans (Ext.one _ _))) (some ⟨_, 0, none⟩) 1 1 [x] rfl (ints_lit1 _ (base := 0) (x) ⟨by omega, by omega⟩ (Nat.zero_le _)).ints (by omega) (by have := HER.out.size; have := HD.out.size; simp; omega) ?_; intro B1 d1 w3 hb3 hg3 hat3))
          go_roundw
          case rel =>
            refine ⟨k + 1, B1, d1, by omega, by first | go_num | exact congrArg _ (by omega), rfl, by rw [HN.out, HG.out]; exact hb3, ((HER.out.trans HD.out).alloc _).grown hg3 (fun q hq => (HO.out.block q hq).1)⟩
          case measure => (simp [intOf] <;> omega)
    · have hke : 2 * k = n2 := by omega
      have HK := hide hke
      have HO := hide ho; have HER := hide hE
      clear hke ho hE
      go_wp2
      go_ret
      refine RetI.mk rfl ((HO.out.mono (by have := HE.out.size; omega)) : OwI _ _ _ _ _ ((nextR xs br).take k)) (HE.out.trans HER.out) |> fun h => ?_
      rw [List.take_of_length_le (by rw [HNL.out, HL2.out]; have := HK.out; omega)] at h
      exact h
-- spec.l21Game
theorem sGame_any (s : Int) (A : Option Addr) (n c : Nat) (xs : List Int) (a b : Int) (w : World) (h : Ints w A n c xs) (ht : tourOk s xs) (ha : -1 ≤ a ∧ a ≤ s - 1) (hb : -1 ≤ b ∧ b ≤ s - 1) :
    Calls Try.prog 191 #[.agg #[.int .i64 s, .slice A n c], .int .i64 a, .int .i64 b] w fun e w' => e = .returned (.int .i64 (game xs a b)) ∧ Ext w w' := by
  have HL := hide h.len
  have hs8 := tourOk_sz ht HL.out
  have HX0 := hide (fun x hx => (tourOk_row ht x hx).1)
  have HI := hide (h.ext (Ext.one w (.cells #[.int .i64 s, .slice A n c] 33)))
  clear h ht
  by_cases hx0 : a = -1
  · subst hx0
    have HG := hide (game_yes (xs := xs) (a := -1) (b := b) (.inl (by omega)))
    go_enter Try.func191, Try.ntmps191
    go_wp2
    go_ret
    exact ⟨ret_int HG.out.symm, Ext.one _ _⟩
  · have hab : (a == -1) = false := by simpa using hx0
    have ha0 : 0 ≤ a := by omega
    clear hx0
    by_cases hy0 : 0 ≤ b
    · obtain ⟨p, rfl⟩ : ∃ p : Nat, a = (p : Int) := ⟨a.toNat, by omega⟩
      obtain ⟨q, rfl⟩ : ∃ q : Nat, b = (q : Int) := ⟨b.toNat, by omega⟩
      by_cases hq : bts xs q p
      · have HG := hide (game_yes (xs := xs) (a := (p : Int)) (b := (q : Int)) (.inr ⟨hy0, by simpa using hq⟩))
        have HQ := hide (decide_eq_true hq)
        clear hq
        go_enter Try.func191, Try.ntmps191
        go_wp2_with (go_at_call 147; refine (sBeats_any _ _ _ _ xs _ _ _ HI.out (by omega) (by omega) HX0.out).mono ?_; rw [HQ.out]; rintro e w9 ⟨rfl, hE9⟩)
        go_ret
        exact ⟨ret_int HG.out.symm, (Ext.one _ _).trans hE9⟩
      · have HG := hide (game_no (xs := xs) (a := (p : Int)) (b := (q : Int)) (by rintro (h | ⟨_, h⟩); omega; exact hq (by simpa using h)))
        have HQ := hide (decide_eq_false hq)
        clear hq
        go_enter Try.func191, Try.ntmps191
        go_wp2_with (go_at_call 147; refine (sBeats_any _ _ _ _ xs _ _ _ HI.out (by omega) (by omega) HX0.out).mono ?_; rw [HQ.out]; rintro e w9 ⟨rfl, hE9⟩)
        go_ret
        exact ⟨ret_int HG.out.symm, (Ext.one _ _).trans hE9⟩
    · have HG := hide (game_no (xs := xs) (a := a) (b := b) (by omega))
      go_enter Try.func191, Try.ntmps191
      go_wp2
      go_ret
      exact ⟨ret_int HG.out.symm, Ext.one _ _⟩
-- spec.l21Next
theorem game_i64 {s : Int} (hs : s ≤ 8) {xs : List Int} {a b : Int} (ha : -1 ≤ a ∧ a ≤ s - 1) (hb : -1 ≤ b ∧ b ≤ s - 1) : I64 (game xs a b) := by
  rcases game_or xs a b with e | e <;> rw [e] <;> exact ⟨by omega, by omega⟩
theorem sNext_any (s : Int) (A : Option Addr) (n c : Nat) (xs : List Int) (A2 : Option Addr) (n2 c2 : Nat) (br : List Int) (w : World) (h : Ints w A n c xs) (h2 : Ints w A2 n2 c2 br)
    (ht : tourOk s xs) (hb : brk s br) (h1 : 1 < br.length) :
    Calls Try.prog 161 #[.agg #[.int .i64 s, .slice A n c], .slice A2 n2 c2] w (RetI w (nextR xs br)) := by
  have HL := hide h.len; have HL2 := hide h2.len
  have hle2 := h2.le
  have hmx2 := h2.max
  have hs8 := tourOk_sz ht HL.out
  have HT := hide ht
  have hn28 := brk_len hb
  rw [HL2.out] at h1 hn28
  have hev : n2 % 2 < 1 := by have := even_len hb (by rw [HL2.out]; exact h1); rw [HL2.out] at this; omega
  have HBR := hide hb.2.1
  have HI := hide h; have HI2 := hide h2
  have HNL := hide (nextR_len xs br)
  clear h h2 ht hb
  go_enter Try.func161, Try.ntmps161
  go_wp2
  obtain ⟨W, hW⟩ : ∃ W : World, W = w.alloc (.cells #[.int .i64 s, .slice A n c] 33) := ⟨_, rfl⟩
  have HE := hide (show Ext w W by rw [hW]; exact Ext.one _ _)
  have B0 := hide (show W.cell? ⟨w.heap.size, 0, none⟩ = some (.int .i64 s) by rw [hW]; simp)
  have B1 := hide (show W.cell? ⟨w.heap.size, 1, none⟩ = some (.slice A n c) by rw [hW]; simp)
  have hWs : W.heap.size ≤ w.heap.size + 1 ∧ w.heap.size + 1 ≤ W.heap.size := by rw [hW]; simp
  rw [← hW]
  have HO0 := hide (ints_lit0 (base := W.heap.size) W (Nat.le_refl _))
  have e0 : (⟨w.heap.size + 1, 0, none⟩ : Addr) = ⟨W.heap.size, 0, none⟩ := by rw [show w.heap.size + 1 = W.heap.size by omega]
  rw [e0]
  clear hW e0
  go_loopw [5, 6] (fun o i wr => ∃ (j k : Nat) (Ao : Option Addr) (co : Nat), j ≤ n2 ∧ j ≤ 2 * k ∧ 2 * k ≤ j ∧ i = .int .i64 (j : Int) ∧ o = .slice Ao k co ∧ OwI wr W.heap.size Ao k co ((nextR xs br).take k) ∧ Ext W wr) (fun _ i _ => n2 - (intOf i).toNat)
  case atStart => exact ⟨0, 0, _, _, by omega, by omega, by omega, rfl, rfl, HO0.out, Ext.one _ _⟩
  case round =>
    obtain ⟨j, k, Ao, co, hk, hj1, hj2, rfl, rfl, ho, hE⟩ := hrel
    by_cases hlt : j < n2
    · obtain ⟨b, off, x, rfl, hbl, hx, wx, hc⟩ := (HI2.out.ext HE.out).get hlt
      obtain ⟨b', off', y, e, hbl', hy, wy, hc'⟩ := (HI2.out.ext HE.out).get (k := j + 1) (by omega)
      cases e
      have hxb := HBR.out x (List.mem_of_getElem? hx)
      have hyb := HBR.out y (List.mem_of_getElem? hy)
      have HN := hide (nextR_take (k := k) xs (by rw [show 2 * k = j by omega]; exact hx) (by rw [show 2 * k = j by omega]; exact hy))
      have HO := hide ho; have HER := hide hE
      have HIr := hide (HI.out.ext (HE.out.trans hE.drew))
      have HG := hide (game_i64 (xs := xs) (by omega) hxb hyb)
      have KS := hide (show ∀ w', Ext W w' → (Ext W w' ∧ w'.cell? ⟨w.heap.size, 0, none⟩ = some (.int .i64 s) ∧ w'.cell? ⟨w.heap.size, 1, none⟩ = some (.slice A n c) ∧ w'.cell? ⟨b, off + j, none⟩ = some (.int .i64 x) ∧ w'.cell? ⟨b, off + (j + 1), none⟩ = some (.int .i64 y)) from
        fun w' hh => ⟨hh, hh.get B0.out, hh.get B1.out, hh.get hc, hh.get hc'⟩)
      clear hx hy ho hE hc hc'
      have hw1 : IntKind.i64.wrap ((j : Int) + 1) = (j : Int) + 1 := by rw [IntKind.wrap_i64]; omega
      have hi1 : (j : Int) < (n2 : Int) := by omega
      have hi2 : (j : Int) + 1 < (n2 : Int) := by omega
      have hi4 : (0 : Int) ≤ (j : Int) + 1 := by omega
      have hi3 : ((j : Int) + 1).toNat = j + 1 := by omega
      go_wp2
      go_region_held3 (fun w' => Ext W w' ∧ w'.cell? ⟨w.heap.size, 0, none⟩ = some (.int .i64 s) ∧ w'.cell? ⟨w.heap.size, 1, none⟩ = some (.slice A n c) ∧ w'.cell? ⟨b, off + j, none⟩ = some (.int .i64 x) ∧ w'.cell? ⟨b, off + (j + 1), none⟩ = some (.int .i64 y))
        (first | exact KS.out _ HER.out | exact KS.out _ HER.out.drew | exact KS.out _ (HER.out.drew.trans hE9) | exact KS.out _ ((HER.out.drew.trans hE9).alloc _) | exact KS.out _ (((HER.out.drew.trans hE9).alloc _).grown hg3 (fun q hq => (HO.out.block q hq).1)))
        (first | (go_at_call 191; refine (sGame_any _ _ _ _ xs _ _ _ HIr.out HT.out hxb hyb).mono ?_; rintro e w9 ⟨rfl, hE9⟩) | (refine step_push_ints rfl (.tmp 14) (.tmp 26) rfl rfl (HO.out.ext (((Ext.refl _).drew.trans hE9).trans (Ext.one _ _))) (some ⟨_, 0, none⟩) 1 1 [game xs x y] rfl (ints_lit1 _ (base := 0) _ HG.out (Nat.zero_le _)).ints (by omega) (by have := HER.out.size; have := hE9.size; simp at this; simp; omega) ?_; intro B1 d1 w3 hb3 hg3 hat3))
      have HE3 := hide (((HER.out.drew.trans hE9).alloc (.cells #[.int .i64 (game xs x y)] 3)).grown hg3 (fun q hq => (HO.out.block q hq).1))
      have HB3 := hide hb3
      clear hb3 hg3 hat3 hE9 hw1 hi3
      go_wp2
      go_roundw
      case rel => exact ⟨j + 2, k + 1, B1, d1, by omega, by omega, by omega, by first | go_num | exact congrArg _ (by omega), rfl, by rw [HN.out]; exact HB3.out, HE3.out⟩
      case measure => (simp [intOf] <;> omega)
    · have HO := hide ho; have HER := hide hE
      clear ho hE
      go_wp2
      go_ret
      refine RetI.mk rfl ((HO.out.mono (by have := HE.out.size; omega)) : OwI _ _ _ _ _ ((nextR xs br).take k)) (HE.out.trans HER.out) |> fun h => ?_
      rw [List.take_of_length_le (by rw [HNL.out, HL2.out]; omega)] at h
      exact h
-- winner iWinner
theorem iWinner_any (s : Int) (A : Option Addr) (n c : Nat) (xs : List Int) (A2 : Option Addr) (n2 c2 : Nat) (br : List Int) (w : World) (h : Ints w A n c xs) (h2 : Ints w A2 n2 c2 br)
    (ht : tourOk s xs) (hb : brk s br) :
    Calls Try.prog 116 #[.agg #[.int .i64 s, .slice A n c], .slice A2 n2 c2] w fun e w' => e = .returned (.int .i64 (winner xs br)) ∧ Ext w w' := by
  have HT := hide ht
  have HB := hide hb
  have HI := hide h; have HI2 := hide h2
  clear h h2 ht hb
  go_enter Try.func116, Try.ntmps116
  go_wp2
  obtain ⟨W, hW⟩ : ∃ W : World, W = w.alloc (.cells #[.int .i64 s, .slice A n c] 33) := ⟨_, rfl⟩
  have HE := hide (show Ext w W by rw [hW]; exact Ext.one _ _)
  have B0 := hide (show W.cell? ⟨w.heap.size, 0, none⟩ = some (.int .i64 s) by rw [hW]; simp)
  have B1 := hide (show W.cell? ⟨w.heap.size, 1, none⟩ = some (.slice A n c) by rw [hW]; simp)
  rw [← hW]
  clear hW
  go_loopw [1] (fun v wr => ∃ (A' : Option Addr) (n' c' : Nat) (br' : List Int), v = .slice A' n' c' ∧ Hid (Ints wr A' n' c' br' ∧ brk s br' ∧ winner xs br' = winner xs br) ∧ Ext W wr) (fun v _ => slLen v)
  case atStart => exact ⟨A2, n2, c2, br, rfl, hide ⟨HI2.out.ext HE.out, HB.out, rfl⟩, Ext.refl _⟩
  case round =>
    obtain ⟨A', n', c', br', rfl, HR, hE⟩ := hrel
    have e0 := hE.get B0.out
    have e1 := hE.get B1.out
    have HER := hide hE
    have hle := HR.out.1.le
    have hmx := HR.out.1.max
    have HL := hide HR.out.1.len
    have hk := brk_len HR.out.2.1
    rw [HL.out] at hk
    clear hE
    by_cases hlt : 1 < n'
    · have HN := hide (nextR_len xs br')
      have h1 : 1 < br'.length := by rw [HL.out]; exact hlt
      have HS := hide (winner_step (xs := xs) h1)
      have H1 := hide h1
      clear h1
      go_wp2_with (go_at_call 166; refine (iNext_any _ _ _ _ xs _ _ _ br' _ (HI.out.ext (HE.out.trans HER.out)) HR.out.1 HT.out HR.out.2.1 H1.out).mono ?_; rintro e w9 ⟨B, d, rfl, ho9, hE9⟩)
      go_roundw
      case rel => exact ⟨B, (nextR xs br').length, d, nextR xs br', rfl, hide ⟨ho9.ints, brk_next xs HR.out.2.1 H1.out, by rw [← HS.out]; exact HR.out.2.2⟩, HER.out.trans hE9⟩
      case measure => (simp [slLen]; have := HN.out; have := HL.out; omega)
    · have hn1 : n' ≤ 1 := by omega
      obtain ⟨b, off, x, rfl, hb, hx, wx, hc⟩ := HR.out.1.get (k := 0) (by omega)
      simp only [Nat.add_zero] at hc
      have HX := hide hx
      have HW := hide (winner_end (xs := xs) (br := br') (by have := HL.out; omega))
      clear hx
      go_wp2
      go_ret
      exact ⟨ret_int (by rw [← HR.out.2.2, HW.out, List.getD, HX.out]; rfl), HE.out.trans HER.out⟩
-- winner sWinner
theorem sWinner_any (s : Int) (A : Option Addr) (n c : Nat) (xs : List Int) (A2 : Option Addr) (n2 c2 : Nat) (br : List Int) (w : World) (h : Ints w A n c xs) (h2 : Ints w A2 n2 c2 br)
    (ht : tourOk s xs) (hb : brk s br) :
    Calls Try.prog 112 #[.agg #[.int .i64 s, .slice A n c], .slice A2 n2 c2] w fun e w' => e = .returned (.int .i64 (winner xs br)) ∧ Ext w w' := by
  have HT := hide ht
  have HB := hide hb
  have HI := hide h; have HI2 := hide h2
  clear h h2 ht hb
  go_enter Try.func112, Try.ntmps112
  go_wp2
  obtain ⟨W, hW⟩ : ∃ W : World, W = w.alloc (.cells #[.int .i64 s, .slice A n c] 33) := ⟨_, rfl⟩
  have HE := hide (show Ext w W by rw [hW]; exact Ext.one _ _)
  have B0 := hide (show W.cell? ⟨w.heap.size, 0, none⟩ = some (.int .i64 s) by rw [hW]; simp)
  have B1 := hide (show W.cell? ⟨w.heap.size, 1, none⟩ = some (.slice A n c) by rw [hW]; simp)
  rw [← hW]
  clear hW
  go_loopw [1] (fun v wr => ∃ (A' : Option Addr) (n' c' : Nat) (br' : List Int), v = .slice A' n' c' ∧ Hid (Ints wr A' n' c' br' ∧ brk s br' ∧ winner xs br' = winner xs br) ∧ Ext W wr) (fun v _ => slLen v)
  case atStart => exact ⟨A2, n2, c2, br, rfl, hide ⟨HI2.out.ext HE.out, HB.out, rfl⟩, Ext.refl _⟩
  case round =>
    obtain ⟨A', n', c', br', rfl, HR, hE⟩ := hrel
    have e0 := hE.get B0.out
    have e1 := hE.get B1.out
    have HER := hide hE
    have hle := HR.out.1.le
    have hmx := HR.out.1.max
    have HL := hide HR.out.1.len
    have hk := brk_len HR.out.2.1
    rw [HL.out] at hk
    clear hE
    by_cases hlt : 1 < n'
    · have HN := hide (nextR_len xs br')
      have h1 : 1 < br'.length := by rw [HL.out]; exact hlt
      have HS := hide (winner_step (xs := xs) h1)
      have H1 := hide h1
      clear h1
      go_wp2_with (go_at_call 161; refine (sNext_any _ _ _ _ xs _ _ _ br' _ (HI.out.ext (HE.out.trans HER.out)) HR.out.1 HT.out HR.out.2.1 H1.out).mono ?_; rintro e w9 ⟨B, d, rfl, ho9, hE9⟩)
      go_roundw
      case rel => exact ⟨B, (nextR xs br').length, d, nextR xs br', rfl, hide ⟨ho9.ints, brk_next xs HR.out.2.1 H1.out, by rw [← HS.out]; exact HR.out.2.2⟩, HER.out.trans hE9⟩
      case measure => (simp [slLen]; have := HN.out; have := HL.out; omega)
    · have hn1 : n' ≤ 1 := by omega
      obtain ⟨b, off, x, rfl, hb, hx, wx, hc⟩ := HR.out.1.get (k := 0) (by omega)
      simp only [Nat.add_zero] at hc
      have HX := hide hx
      have HW := hide (winner_end (xs := xs) (br := br') (by have := HL.out; omega))
      clear hx
      go_wp2
      go_ret
      exact ⟨ret_int (by rw [← HR.out.2.2, HW.out, List.getD, HX.out]; rfl), HE.out.trans HER.out⟩

end Go.Proofs.Ytbaljgdepicigaa
