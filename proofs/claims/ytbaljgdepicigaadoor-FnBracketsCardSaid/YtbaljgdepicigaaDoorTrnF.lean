/-
  Contracts of the functions that take a part of a tour.
-/
import Derived.Laws.ShiftsVar
import Derived.Deep.QuietTactic
import Derived.Great.Walk
import Derived.Deep.RegionLaw
import Derived.Deep.RegionHeld3
import Derived.Deep.DeepCutAuto
import Derived.Test.YtbaljgdepicigaaDoorBase
import Derived.Test.YtbaljgdepicigaaDoorMgA
import Derived.Test.YtbaljgdepicigaaDoorLib
import Derived.Test.YtbaljgdepicigaaDoorAid
import Derived.Test.YtbaljgdepicigaaDoorStep
import Derived.Test.YtbaljgdepicigaaDoorGrid
import Derived.Test.YtbaljgdepicigaaDoorLibF
import Derived.Test.YtbaljgdepicigaaDoorMgB
import Derived.Test.YtbaljgdepicigaaDoorMathBo
import Derived.Test.YtbaljgdepicigaaDoorMathBp
import Derived.Test.YtbaljgdepicigaaDoorPop
import Derived.Test.YtbaljgdepicigaaDoorDblB
import Derived.Test.YtbaljgdepicigaaDoorDblD
import Derived.Test.YtbaljgdepicigaaDoorTour
import Derived.Test.YtbaljgdepicigaaDoorTourB
import Derived.Test.YtbaljgdepicigaaDoorWin
import Derived.Test.YtbaljgdepicigaaDoorWinE
import Derived.Test.YtbaljgdepicigaaDoorSortT
import Derived.Test.YtbaljgdepicigaaDoorDrwA
import Derived.Test.YtbaljgdepicigaaDoorDrwB
import Derived.Test.YtbaljgdepicigaaDoorTrnA
import Derived.Test.YtbaljgdepicigaaDoorTrnB
import Derived.Test.YtbaljgdepicigaaDoorTrnC
import Derived.Test.YtbaljgdepicigaaDoorTrnD
namespace Go.Proofs.YtbaljgdepicigaaDoor
open Go.RowKit
set_option linter.unusedVariables false
set_option maxRecDepth 100000

-- impl.PartTour$1
theorem partC_any (n : Nat) (A : Option Addr) (c : Nat) (xs : List Int) (tb lb : Nat) (L : Option Addr) (lc : Nat) (a b : Nat) (w : World) (ht : tourOk (n : Int) xs) (h : Ints w A n c xs) (h0 : w.cell? ⟨tb, 0, none⟩ = some (.int .i64 (n : Int))) (h1 : w.cell? ⟨tb, 1, none⟩ = some (.slice A n c)) (hl : w.cell? ⟨lb, 0, none⟩ = some (.slice L n lc)) (hL : Ints w L n lc (upto n)) (ha : a < n) (hb : b < n) :
    Calls Tryd.prog 72 #[.int .i64 (a : Int), .int .i64 (b : Int), .pointer (some ⟨tb, 0, none⟩), .pointer (some ⟨lb, 0, none⟩)] w fun e w' => e = .returned (.bool (decide (bts xs a b))) ∧ Ext w w' := by
  have hn8 : n ≤ 8 := by have := tourOk_size ht; have := h.len; omega
  have hx0 : ∀ x ∈ xs, 0 ≤ x := fun x hx => (tourOk_row ht x hx).1
  obtain ⟨bl, ol, x, rfl, _, hx, _, hca⟩ := hL.get ha
  obtain ⟨bl', ol', y, e, _, hy, _, hcb⟩ := hL.get hb
  cases e
  have gx : x = (a : Int) := by
    unfold upto at hx
    rw [List.getElem?_map, List.getElem?_range ha] at hx
    exact (Option.some.inj hx).symm
  have gy : y = (b : Int) := by
    unfold upto at hy
    rw [List.getElem?_map, List.getElem?_range hb] at hy
    exact (Option.some.inj hy).symm
  subst gx
  subst gy
  have CB := hide (fun (e : After w) => iBeats_any (n : Int) A n c xs a b e.val (h.ext e.property) ha (by omega) hx0)
  have d0 := after_cell h0
  have d1 := after_cell h1
  have dl := after_cell hl
  have da := after_cell hca
  have db := after_cell hcb
  have hai : (a : Int) < (n : Int) := by omega
  have hbi : (b : Int) < (n : Int) := by omega
  clear ht h h0 h1 hl hL hx hy hca hcb hx0
  go_enter Tryd.func72, Tryd.ntmps72
  go_wp2
  refine wp_region_ext (by kernel_rfl) (by kernel_rfl) ?_
  repeat (go_big_quiet_step ((go_at_call 68; with_reducible exact after_call (CB.out _))))
  refine wpQuiet_nil ?_
  rintro w2 ⟨⟨w2, hE2⟩, rfl⟩
  go_wp2
  go_ret
  exact ⟨rfl, hE2⟩
-- impl.tourOf
/-- The rows while they grow: row a up to bit b. -/
def midT (xs : List Int) (a b : Nat) : List Int := (List.range xs.length).map fun (i : Nat) => if i < a then xs.getD i 0 else if i = a then ((rowN xs (a : Int) % 2 ^ b : Nat) : Int) else 0
theorem midT_len (xs : List Int) (a b : Nat) : (midT xs a b).length = xs.length := by simp [midT]
theorem midT_get (xs : List Int) {a : Nat} (b : Nat) (h : a < xs.length) : (midT xs a b)[a]? = some ((rowN xs (a : Int) % 2 ^ b : Nat) : Int) := by simp [midT, h]
theorem midT_zero (xs : List Int) : midT xs 0 0 = List.replicate xs.length 0 := by
  refine List.ext_getElem? fun i => ?_
  unfold midT
  rw [List.getElem?_map, List.getElem?_replicate]
  by_cases hi : i < xs.length
  · rw [List.getElem?_range hi, if_pos hi]
    simp only [Option.map_some, Nat.not_lt_zero, if_false, Nat.pow_zero, Nat.mod_one]
    split <;> rfl
  · rw [List.getElem?_eq_none (by simpa using hi), if_neg hi]; rfl
theorem midT_set (xs : List Int) {a : Nat} (b b' : Nat) (h : a < xs.length) : (midT xs a b).set a ((rowN xs (a : Int) % 2 ^ b' : Nat) : Int) = midT xs a b' := by
  refine List.ext_getElem? fun i => ?_
  rw [List.getElem?_set, midT_len]
  by_cases e : a = i
  · subst e; rw [if_pos rfl, if_pos h, midT_get _ _ h]
  · rw [if_neg e]
    have e' : ¬ i = a := fun h => e h.symm
    by_cases hi : i < xs.length
    · simp [midT, hi, e']
    · simp [midT, hi]
theorem row_val {n : Nat} {xs : List Int} (ht : tourOk (n : Int) xs) {a : Nat} (ha : a < n) : (rowN xs (a : Int) : Int) = xs.getD a 0 := by
  have hl : xs.length = n := by have := tourOk_size ht; omega
  have hx : xs[a]? = some (xs[a]'(by omega)) := List.getElem?_eq_getElem _
  have hr := tourOk_row ht _ (List.mem_of_getElem? hx)
  generalize xs[a]'(by omega) = y at hx hr
  unfold rowN
  rw [Int.toNat_natCast, List.getD_eq_getElem?_getD, hx]
  simp only [Option.getD_some]
  omega
theorem midT_next {n : Nat} {xs : List Int} (ht : tourOk (n : Int) xs) {a : Nat} (ha : a < n) : midT xs a n = midT xs (a + 1) 0 := by
  have hl : xs.length = n := by have := tourOk_size ht; omega
  unfold midT
  refine List.map_congr_left fun i hi => ?_
  by_cases h1 : i < a
  · rw [if_pos h1, if_pos (by omega)]
  · rw [if_neg h1]
    by_cases h2 : i = a
    · subst h2
      rw [if_pos rfl, if_pos (by omega), Nat.mod_eq_of_lt (row_lt ht ha), row_val ht ha]
    · rw [if_neg h2, if_neg (by omega)]
      split
      · rw [Nat.pow_zero, Nat.mod_one]; rfl
      · rfl
theorem midT_end (xs : List Int) : midT xs xs.length 0 = xs := by
  refine List.ext_getElem? fun i => ?_
  unfold midT
  rw [List.getElem?_map]
  by_cases hi : i < xs.length
  · rw [List.getElem?_range hi]
    simp [hi]
  · rw [List.getElem?_eq_none (by simpa using hi), List.getElem?_eq_none (by omega)]; rfl
theorem mod_or {r b : Nat} (hb : b < 8) (hr : r < 256) : (r.testBit b = true → r % 2 ^ b ||| 2 ^ b = r % 2 ^ (b + 1)) ∧ (r.testBit b = false → r % 2 ^ b = r % 2 ^ (b + 1)) := by
  have key : ∀ r : Nat, r < 256 → ∀ b : Nat, b < 8 → (r.testBit b = true → r % 2 ^ b ||| 2 ^ b = r % 2 ^ (b + 1)) ∧ (r.testBit b = false → r % 2 ^ b = r % 2 ^ (b + 1)) := by decide +kernel
  exact key r hr b hb
set_option maxHeartbeats 2000000 in
theorem tourOf_any (n : Nat) (xs : List Int) (tb lb : Nat) (w : World) (ht : tourOk (n : Int) xs) (hc : ∀ (w' : World) (a b : Nat), Ext w w' → a < n → b < n → Calls Tryd.prog 72 #[.int .i64 (a : Int), .int .i64 (b : Int), .pointer (some ⟨tb, 0, none⟩), .pointer (some ⟨lb, 0, none⟩)] w' fun e w'' => e = .returned (.bool (decide (bts xs a b))) ∧ Ext w' w'') :
    Calls Tryd.prog 71 #[.int .i64 (n : Int), .func (.func 72) #[] #[.pointer (some ⟨tb, 0, none⟩), .pointer (some ⟨lb, 0, none⟩)]] w fun e w' => ∃ A c, e = .returned (.agg #[.int .i64 (n : Int), .slice A n c]) ∧ OwI w' w.heap.size A n c xs ∧ Ext w w' := by
  have HT := hide ht
  have HC := hide hc
  have hs := tourOk_size ht
  have hl : xs.length = n := by omega
  have hn : n ≤ 8 := by omega
  have HLX := hide hl
  have hmk := run_make_ints n (by omega)
  clear ht hc hs hl
  go_enter Tryd.func71, Tryd.ntmps71
  go_wp2
  clear hmk
  obtain ⟨W, hW⟩ : ∃ W : World, W = ((w.alloc (.cells #[.int .i64 0, .slice none 0 0] 26)).alloc (.cells (zeroRow n) 3)).alloc (.cells #[.int .i64 (n : Int), .slice (some ⟨w.heap.size + 1, 0, none⟩) n n] 26) := ⟨_, rfl⟩
  have HE := hide (show Ext w W by rw [hW]; exact (((Ext.refl w).alloc _).alloc _).alloc _)
  have hh : (w.alloc (.cells #[.int .i64 0, .slice none 0 0] 26)).heap.size = w.heap.size + 1 := by simp
  have HO := hide (show OwI W (w.heap.size + 1) (some ⟨w.heap.size + 1, 0, none⟩) n n (midT xs 0 0) by
    rw [hW, ← hh, midT_zero, HLX.out]
    exact (OwI.zeros _ n (by omega) (Nat.le_refl _)).ext (Ext.one _ _))
  have hb0 : W.heap[w.heap.size]? = some (.cells #[.int .i64 0, .slice none 0 0] 26 (0, 0)) := by
    rw [hW]; exact heap_old (heap_old (heap_new w _))
  have hb2 : W.heap[w.heap.size + 1 + 1]? = some (.cells #[.int .i64 (n : Int), .slice (some ⟨w.heap.size + 1, 0, none⟩) n n] 26 (0, 0)) := by
    rw [hW]
    have := heap_new ((w.alloc (.cells #[.int .i64 0, .slice none 0 0] 26)).alloc (.cells (zeroRow n) 3)) (.cells #[.int .i64 (n : Int), .slice (some ⟨w.heap.size + 1, 0, none⟩) n n] 26)
    simpa using this
  have HB0 := hide hb0
  have HB2 := hide hb2
  rw [← hW]
  clear hW hh hb0 hb2
  go_loopw [13] (fun i wr => ∃ a : Nat, a ≤ n ∧ i = .int .i64 (a : Int) ∧ Hid (OwI wr (w.heap.size + 1) (some ⟨w.heap.size + 1, 0, none⟩) n n (midT xs a 0)) ∧ W.grownBy wr (some (w.heap.size + 1))) (fun i _ => n - (intOf i).toNat)
  case atStart => exact ⟨0, Nat.zero_le _, rfl, HO, grown_refl _ _⟩
  case round =>
    obtain ⟨a, ha, rfl, HOa, hG⟩ := hrel
    by_cases hlt : a < n
    · have HG := hide hG
      clear hG
      have han : (a : Int) < (n : Int) := by omega
      have hax : a < xs.length := by rw [HLX.out]; exact hlt
      go_wp2
      obtain ⟨wo, hwo⟩ : ∃ wo : World, wo = wr := ⟨_, rfl⟩
      go_loopw [17] (fun i wr => ∃ b : Nat, b ≤ n ∧ i = .int .i64 (b : Int) ∧ Hid (OwI wr (w.heap.size + 1) (some ⟨w.heap.size + 1, 0, none⟩) n n (midT xs a b)) ∧ W.grownBy wr (some (w.heap.size + 1))) (fun i _ => n - (intOf i).toNat)
      case atStart => exact ⟨0, Nat.zero_le _, rfl, HOa, HG.out⟩
      case round =>
        clear HG HOa hwo
        obtain ⟨b, hb, rfl, HOb, hG⟩ := hrel
        have HG := hide hG
        by_cases hltb : b < n
        · have hbn : (b : Int) < (n : Int) := by omega
          have HEW := hide (HE.out.grown hG (fun k hk => by cases hk; omega))
          have hr8 : rowN xs (a : Int) < 256 := by have h1 := row_lt HT.out hlt; have h2 := pow8 hn; omega
          have hmo := mod_or (r := rowN xs (a : Int)) (b := b) (by omega) hr8
          have hbw := bts_row HT.out (b := b) hax
          clear hG
          by_cases hab : a = b
          · subst hab
            have hself : ¬ bts xs a a := bts_self HT.out hax
            have hbf : (rowN xs (a : Int)).testBit a = false := by
              cases e : (rowN xs (a : Int)).testBit a with
              | false => rfl
              | true => exact absurd (hbw.2 e) hself
            have HNX := hide (show midT xs a a = midT xs a (a + 1) by unfold midT; rw [hmo.2 hbf])
            clear hmo hbw hbf hself
            go_wp2
            go_roundw
            case rel => exact ⟨a + 1, by omega, by go_num, hide (by rw [← HNX.out]; exact HOb.out), HG.out⟩
            case measure => (simp [intOf] <;> omega)
          · have hne : ((a : Int) != (b : Int)) = true := by simp; omega
            have CB := hide (HC.out wr a b HEW.out hlt hltb)
            by_cases hbt : bts xs a b
            · have hbv := hmo.1 (hbw.1 hbt)
              rw [decide_eq_true hbt] at CB
              clear hbt hbw
              go_wp2_with fail
              refine CB.out.mono ?_
              rintro e w5 ⟨rfl, hE5⟩
              have HO5 := hide (HOb.out.ext hE5)
              have HG5 := hide (grown_trans HG.out (hE5.to_grown (some (w.heap.size + 1))) (.inr (.inl rfl)))
              have c20 : w5.heap[w.heap.size + 1 + 1]? = _ := (HG5.out.block _ (Array.getElem?_eq_some_iff.1 HB2.out).1 (by simp)).trans HB2.out
              have e0 : w5.cell? ⟨w.heap.size + 1 + 1, 0, none⟩ = some (.int .i64 (n : Int)) := by rw [cell_of_row _ _ 0 _ _ _ c20]; rfl
              have e1 : w5.cell? ⟨w.heap.size + 1 + 1, 1, none⟩ = some (.slice (some ⟨w.heap.size + 1, 0, none⟩) n n) := by rw [cell_of_row _ _ 1 _ _ _ c20]; rfl
              obtain ⟨_, _, x, e, _, _, hx, wx, hcx, hfx⟩ := HO5.out.get hlt
              cases e
              rw [midT_get _ _ hax] at hx
              obtain ⟨r, hr⟩ : ∃ r, rowN xs (a : Int) % 2 ^ b = r := ⟨_, rfl⟩
              have hr2 : r < 256 := by rw [← hr]; exact Nat.lt_of_le_of_lt (Nat.mod_le _ _) hr8
              rw [hr] at hx hbv
              obtain rfl : (r : Int) = x := Option.some.inj hx
              simp only [Nat.zero_add] at hcx hfx
              have HMS := hide (or_shl r b hr2 (by omega))
              have hor8 : r ||| 2 ^ b < 256 := by rw [hbv]; exact Nat.lt_of_le_of_lt (Nat.mod_le _ _) hr8
              have HSTO := hide (HO5.out.store (k := a) rfl hlt (x := ((r ||| 2 ^ b : Nat) : Int)) (nat_i64D (by omega)))
              rw [hbv, midT_set xs b (b + 1) hax] at HSTO
              rw [← hbv] at HSTO
              simp only [Nat.zero_add] at HSTO
              clear c20 hx hE5 hmo hr hbv hr8 HOb
              have hb64 : b < 64 := by omega
              go_wp2
              go_region
              all_goals
                go_wp2
                rw [HMS.out]
                go_roundw
                case rel => exact ⟨b + 1, by omega, by go_num, hide (HSTO.out.ext ((Ext.refl _).drew)), grown_trans (grown_trans HG5.out (grown_setCell _ _ _) (.inr (.inl rfl))) (grown_drew _ _) (.inr (.inl rfl))⟩
                case measure => (simp [intOf] <;> omega)
            · have hbf : (rowN xs (a : Int)).testBit b = false := by
                cases e : (rowN xs (a : Int)).testBit b with
                | false => rfl
                | true => exact absurd (hbw.2 e) hbt
              have HNX := hide (show midT xs a b = midT xs a (b + 1) by unfold midT; rw [hmo.2 hbf])
              rw [decide_eq_false hbt] at CB
              clear hbt hbw hmo hbf
              go_wp2_with fail
              refine CB.out.mono ?_
              rintro e w5 ⟨rfl, hE5⟩
              have HO5 := hide (HOb.out.ext hE5)
              have HG5 := hide (grown_trans HG.out (hE5.to_grown (some (w.heap.size + 1))) (.inr (.inl rfl)))
              clear hE5
              go_wp2
              go_roundw
              case rel => exact ⟨b + 1, by omega, by go_num, hide (by rw [← HNX.out]; exact HO5.out), HG5.out⟩
              case measure => (simp [intOf] <;> omega)
        · have hke : b = n := by omega
          have HNX := hide (show OwI wr (w.heap.size + 1) (some ⟨w.heap.size + 1, 0, none⟩) n n (midT xs (a + 1) 0) by rw [← midT_next HT.out hlt, ← hke]; exact hke ▸ HOb.out)
          have hbn : ¬ (b : Int) < (n : Int) := by omega
          clear hke hG
          go_wp2
          go_roundw
          case rel => exact ⟨a + 1, by omega, by go_num, HNX, HG.out⟩
          case measure => (simp [intOf] <;> omega)
    · have hke : a = n := by omega
      subst hke
      have b0 := (hG.block _ (Array.getElem?_eq_some_iff.1 HB0.out).1 (by simp)).trans HB0.out
      have b2 := (hG.block _ (Array.getElem?_eq_some_iff.1 HB2.out).1 (by simp)).trans HB2.out
      obtain ⟨c00, c01, f00, f01, s0⟩ := two_cells (Ext.refl wr) b0
      obtain ⟨c20, c21, f20, f21, s2⟩ := two_cells (Ext.refl wr) b2
      have HEW := hide (HE.out.grown hG (fun k hk => by cases hk; omega))
      have HOX := hide (show OwI wr (w.heap.size + 1) (some ⟨w.heap.size + 1, 0, none⟩) a a xs by have h1 := HOa.out; rw [show midT xs a 0 = xs by have h2 := midT_end xs; rw [HLX.out] at h2; exact h2] at h1; exact h1)
      clear b0 b2 hG
      go_wp2
      refine bodyPost_ret (v := .agg #[.int .i64 (a : Int), .slice (some ⟨w.heap.size + 1, 0, none⟩) a a]) (by simp [results, Tryd.results71, go_sem, c00, c01]) rfl ⟨some ⟨w.heap.size + 1, 0, none⟩, a, rfl, ?_, (HEW.out.setCell (Nat.le_refl _) _).setCell (Nat.le_refl _) _⟩
      refine ⟨(HOX.out.mono (by omega)).ow.keep fun k hk => ?_, HOX.out.wf⟩
      have hk' : k = w.heap.size + 1 := by simpa using hk.symm
      rw [Below.heap_setCell _ _ _ _ (by simp; omega), Below.heap_setCell _ _ _ _ (by simp; omega)]
-- impl.PartTour
theorem mems_255 : mems 255 = upto 8 := by decide
set_option maxHeartbeats 2000000 in
theorem partTour_any (A : Option Addr) (c : Nat) (xs : List Int) (w : World) (ht : tourOk 8 xs) (h : Ints w A 8 c xs) :
    Calls Tryd.prog 29 #[.agg #[.int .i64 8, .slice A 8 c], .int .i64 255] w fun e w' => ∃ (A' : Option Addr) (c' : Nat), e = .returned (.tuple #[.agg #[.int .i64 8, .slice A' 8 c'], .bool true]) ∧ Ints w' A' 8 c' xs ∧ Ext w w' := by
  have HT := hide ht
  have HI := hide h
  have hmf : ∀ (fn : Fn) (first cap : Array Value) (w : World), (Instr.makeFunc fn first cap).run Tryd.prog w = .ok (.func fn first cap) w := fun _ _ _ _ => rfl
  obtain ⟨W, hW⟩ : ∃ W : World, W = (w.alloc (.cells #[.int .i64 8, .slice A 8 c] 26)).alloc (.cells #[.int .i64 0, .slice none 0 0] 26) := ⟨_, rfl⟩
  have HE := hide (show Ext w W by rw [hW]; exact ((Ext.refl w).alloc _).alloc _)
  have hb0 : W.heap[w.heap.size]? = some (.cells #[.int .i64 8, .slice A 8 c] 26 (0, 0)) := by rw [hW]; exact heap_old (heap_new w _)
  have hb1 : W.heap[w.heap.size + 1]? = some (.cells #[.int .i64 0, .slice none 0 0] 26 (0, 0)) := by
    rw [hW]
    have := heap_new (w.alloc (.cells #[.int .i64 8, .slice A 8 c] 26)) (.cells #[.int .i64 0, .slice none 0 0] 26)
    simpa using this
  have HB0 := hide hb0
  have HB1 := hide hb1
  have HW := hide hW
  obtain ⟨b00, b01, _, _, _⟩ := two_cells (Ext.refl W) hb0
  clear h ht hW hb0 hb1
  go_enter Tryd.func29, Tryd.ntmps29
  go_wp2_with fail
  rw [← HW.out]
  refine (iTourOk_any _ _ _ _ xs _ (HI.out.ext HE.out)).mono ?_
  rw [decide_eq_true HT.out]
  rintro e w1 ⟨rfl, hE1⟩
  have HE1 := hide hE1
  have d0 := hE1.get b00
  have d1 := hE1.get b01
  clear hE1 b00 b01
  go_wp2_with fail
  refine (within_any _ _ _ _).mono ?_
  rw [show decide ((1 : Int) ≤ 255 ∧ (255 : Int) ≤ 255) = true from by decide]
  rintro e w2 ⟨rfl, rfl⟩
  have CM := hide (show Calls Tryd.prog 70 #[.int .i64 255] w1 (RetI w1 (mems 255)) from membersOf_small 255 (by omega) w1)
  rw [mems_255] at CM
  go_wp2_with fail
  refine CM.out.mono ?_
  rintro e w3 ⟨Lb, lc, rfl, hoL, hE3⟩
  rw [upto_len] at hoL ⊢
  obtain ⟨w4, hw4⟩ : ∃ w4 : World, w4 = w3.alloc (.cells #[.slice Lb 8 lc] 23) := ⟨_, rfl⟩
  have hE34 : Ext w3 w4 := by rw [hw4]; exact Ext.one _ _
  have hlc : w4.cell? ⟨w3.heap.size, 0, none⟩ = some (.slice Lb 8 lc) := by rw [hw4]; simp
  have HW4 := hide hw4
  have HL4 := hide (hoL.ints.ext hE34)
  have HE4 := hide (HE1.out.trans (hE3.trans hE34))
  have HLC := hide hlc
  have HD0 := hide ((hE3.trans hE34).get d0)
  have HD1 := hide ((hE3.trans hE34).get d1)
  clear hw4 hE34 hoL hE3 d0 d1
  have CT := hide (tourOf_any 8 xs w.heap.size w3.heap.size w4 HT.out (fun w' a b hE ha hb => partC_any 8 A c xs w.heap.size w3.heap.size Lb lc a b w' HT.out (HI.out.ext (HE.out.trans (HE4.out.trans hE))) (hE.get HD0.out) (hE.get HD1.out) (hE.get HLC.out) (HL4.out.ext hE) ha hb))
  go_wp2_with fail
  rw [← HW4.out]
  refine CT.out.mono ?_
  rintro e w5 ⟨A5, c5, rfl, ho5, hE5⟩
  obtain ⟨c10, c11, f10, f11, s1⟩ := two_cells (HE4.out.trans hE5) HB1.out
  have HO5 := hide ho5
  have HE5 := hide (HE.out.trans (HE4.out.trans hE5))
  have hsz4 := HE4.out.size
  have hszW := (Array.getElem?_eq_some_iff.1 HB1.out).1
  clear ho5 hE5 hlc
  go_wp2
  refine bodyPost_ret (v := .tuple #[.agg #[.int .i64 8, .slice A5 8 c5], .bool true]) (by simp [results, Tryd.results29, go_sem, c10, c11]) rfl ⟨A5, c5, rfl, ?_, (HE5.out.setCell (by simp) _).setCell (by simp) _⟩
  refine ⟨(HO5.out.ow.keep fun k hk => ?_).rd, HO5.out.wf⟩
  have hk' := (HO5.out.block k hk).1
  rw [Below.heap_setCell _ _ _ _ (by simp; omega), Below.heap_setCell _ _ _ _ (by simp; omega)]

end Go.Proofs.YtbaljgdepicigaaDoor
