/-
  Contracts of the function that gives other names to the players of a tour.
-/
import Derived.Deep.RegionLaw
import Derived.Deep.RegionHeld3
import Derived.Laws.ShiftsVar
import Derived.Test.YtbaljgdepicigaaDoorBase
import Derived.Test.YtbaljgdepicigaaDoorMgA
import Derived.Test.YtbaljgdepicigaaDoorLib
import Derived.Test.YtbaljgdepicigaaDoorAid
import Derived.Test.YtbaljgdepicigaaDoorStep
import Derived.Test.YtbaljgdepicigaaDoorGrid
import Derived.Test.YtbaljgdepicigaaDoorLibF
import Derived.Test.YtbaljgdepicigaaDoorSeed
import Derived.Test.YtbaljgdepicigaaDoorTour
import Derived.Test.YtbaljgdepicigaaDoorTourB
import Derived.Test.YtbaljgdepicigaaDoorCurA
import Derived.Test.YtbaljgdepicigaaDoorDrwA
import Derived.Test.YtbaljgdepicigaaDoorDrwB
import Derived.Test.YtbaljgdepicigaaDoorDrwC
namespace Go.Proofs.YtbaljgdepicigaaDoor
open Go.RowKit
set_option linter.unusedVariables false
set_option maxRecDepth 100000

-- words
theorem bit_oneD {v : Nat} (hv : v < 256) (a : Nat) : (bits BinOp.and IntKind.i64 ((v : Int) / 2 ^ a) 1 == 1) = v.testBit a := by
  rw [and_bit2 (m := (v : Int)) (by omega) (by omega) a, Bool.eq_iff_iff, beq_iff_eq, bitAt_iff]
-- spec.l02Rename
set_option maxHeartbeats 8000000 in
theorem l02Rename_any (n : Nat) (A : Option Addr) (c : Nat) (xs : List Int) (A2 : Option Addr) (c2 : Nat) (names : List Int) (w : World) (ht : tourOk (n : Int) xs) (hp : isPerm n names) (h : Ints w A n c xs) (h2 : Ints w A2 n c2 names) :
    Calls Tryd.prog 91 #[.agg #[.int .i64 (n : Int), .slice A n c], .slice A2 n c2] w (RetTour w n) := by
  have hn8 := (tourOk_size ht).2.1
  have hl := h.len
  rw [hl] at hn8
  have HI := hide h
  have HI2 := hide h2
  have HT := hide ht
  have HP := hide hp
  have HR := hide (tourOk_rows ht)
  clear h h2 ht hp hl
  obtain ⟨W, hW⟩ : ∃ W : World, W = (w.alloc (.cells #[.int .i64 (n : Int), .slice A n c] 26)).alloc (.cells #[.int .i64 0, .slice none 0 0] 26) := ⟨_, rfl⟩
  have HE := hide (show Ext w W by rw [hW]; exact (Ext.one _ _).alloc _)
  have HZ := hide (show W.heap.size = w.heap.size + 2 by rw [hW]; simp)
  have B0 := hide (show W.cell? ⟨w.heap.size, 0, none⟩ = some (.int .i64 (n : Int)) by rw [hW]; simp)
  have B1 := hide (show W.cell? ⟨w.heap.size, 1, none⟩ = some (.slice A n c) by rw [hW]; simp)
  have BR := hide (show W.heap[w.heap.size + 1]? = some (.cells #[.int .i64 0, .slice none 0 0] 26 (0, 0)) by rw [hW]; have := heap_new (w.alloc (.cells #[.int .i64 (n : Int), .slice A n c] 26)) (.cells #[.int .i64 0, .slice none 0 0] 26); simpa using this)
  have HW := hide hW
  have hmk := run_make_ints n (by omega)
  clear hW
  go_enter Tryd.func91, Tryd.ntmps91
  go_wp2
  rw [← HW.out]
  have b0 := B0.out
  have b1 := B1.out
  have hlt : w.heap.size < W.heap.size := by have := HZ.out; omega
  have G1 := hide (show Boxed n W ((W.alloc (.cells (zeroRow n) 3)).alloc (.cells #[.int .i64 (n : Int), .slice (some ⟨W.heap.size, 0, none⟩) n n] 26)).drew (W.heap.size + 1) (some ⟨W.heap.size, 0, none⟩) n (List.replicate n 0) from
    ⟨by omega, by have := heap_new (W.alloc (.cells (zeroRow n) 3)) (.cells #[.int .i64 (n : Int), .slice (some ⟨W.heap.size, 0, none⟩) n n] 26); rw [World.size_alloc] at this; exact this, (OwI.zeros W n (by omega) (Nat.le_refl _)).ext (Ext.one _ _).drew, fun e => by have := Option.some.inj e; simp at this, ((Ext.one W _).alloc _).drew⟩)
  have G2 := hide (show Boxed n W ((W.alloc (.cells #[.int .i64 (n : Int), .slice (some ⟨W.heap.size + 1, 0, none⟩) n n] 26)).alloc (.cells (zeroRow n) 3)).drew W.heap.size (some ⟨W.heap.size + 1, 0, none⟩) n (List.replicate n 0) from
    ⟨Nat.le_refl _, heap_old (heap_new W _), by
      have := OwI.zeros (W.alloc (.cells #[.int .i64 (n : Int), .slice (some ⟨W.heap.size + 1, 0, none⟩) n n] 26)) (base := W.heap.size) n (by omega) (by simp)
      rw [World.size_alloc] at this
      exact this.ext (Ext.refl _).drew, fun e => by have := Option.some.inj e; simp at this, ((Ext.one W _).alloc _).drew⟩)
  go_region
  all_goals
    first
      | (obtain ⟨w1, hw1⟩ : ∃ w1 : World, w1 = ((W.alloc (.cells (zeroRow n) 3)).alloc (.cells #[.int .i64 (n : Int), .slice (some ⟨W.heap.size, 0, none⟩) n n] 26)).drew := ⟨_, rfl⟩; rw [← hw1] at G1 ⊢; have hbx := G1.out; generalize W.heap.size + 1 = K at hbx ⊢; generalize hB : (some ⟨W.heap.size, 0, none⟩ : Option Addr) = B at hbx ⊢)
      | (obtain ⟨w1, hw1⟩ : ∃ w1 : World, w1 = ((W.alloc (.cells #[.int .i64 (n : Int), .slice (some ⟨W.heap.size + 1, 0, none⟩) n n] 26)).alloc (.cells (zeroRow n) 3)).drew := ⟨_, rfl⟩; rw [← hw1] at G2 ⊢; have hbx := G2.out; generalize hB : (some ⟨W.heap.size + 1, 0, none⟩ : Option Addr) = B at hbx ⊢; generalize W.heap.size = K at hbx ⊢)
    clear hB hw1
    obtain ⟨hK, hb7, hoB, hneB, hX1⟩ := hbx
    have hn0 : 0 < n := by have := (tourOk_size HT.out).1; have := HR.out.1; omega
    obtain ⟨b', off', _, rfl, hbb, hbl, _, _, _, _⟩ := hoB.get hn0
    have hKb : K ≠ b' := fun e => hneB (by rw [e]; rfl)
    have HB0 := hide hoB
    have HK7 := hide hb7
    have HX1 := hide hX1
    have HLE := hide (fun wr (hg : w1.grownBy wr (some b')) => HX1.out.grown hg (fun q hq => by cases hq; exact hbb))
    have HKR := hide (fun wr (hg : w1.grownBy wr (some b')) => (hg.block K (Array.getElem?_eq_some_iff.1 HK7.out).1 (fun e => hKb (Option.some.inj e))).trans HK7.out)
    have c0 := HX1.out.get B0.out
    have c1 := HX1.out.get B1.out
    clear hoB hb7 hX1 hneB b0 b1 G1 G2
    go_wp2
    go_loopw [18] (fun i wr => ∃ (a : Nat) (zs : List Int), a ≤ n ∧ i = .int .i64 (a : Int) ∧ Hid (RenSt n xs names a 0 zs) ∧ Hid (OwI wr W.heap.size (some ⟨b', off', none⟩) n n zs) ∧ w1.grownBy wr (some b')) (fun i _ => n - (intOf i).toNat)
    case atStart => exact ⟨0, _, Nat.zero_le _, rfl, hide (renSt_start n xs names), HB0, grown_refl _ _⟩
    case round =>
      obtain ⟨a, zs, ha, rfl, HS, HO, hG⟩ := hrel
      have HG := hide hG
      clear hG
      have HXr := hide (HLE.out _ HG.out)
      have m0 := HXr.out.get B0.out
      have m1 := HXr.out.get B1.out
      by_cases hlt : a < n
      · have hai : (a : Int) < (n : Int) := by omega
        have hai0 : (0 : Int) ≤ (a : Int) := by omega
        obtain ⟨ba, oa, x, rfl, hba, hx, wx, hcx⟩ := (HI.out.ext (HE.out.trans HXr.out)).get hlt
        obtain ⟨m, hm, hm8⟩ := rowsOk_get HR.out hlt
        rw [hm] at hx
        obtain rfl : (m : Int) = x := Option.some.inj hx
        have HM := hide hm
        clear hm hx
        go_wp2
        go_loopw [26] (fun i wr => ∃ (b : Nat) (zs : List Int), b ≤ n ∧ i = .int .i64 (b : Int) ∧ Hid (RenSt n xs names a b zs) ∧ Hid (OwI wr W.heap.size (some ⟨b', off', none⟩) n n zs) ∧ w1.grownBy wr (some b')) (fun i _ => n - (intOf i).toNat)
        case atStart => exact ⟨0, zs, Nat.zero_le _, rfl, HS, HO, HG.out⟩
        case round =>
          clear HXr HG HS HO m0 m1 hcx
          obtain ⟨b, zs, hb, rfl, HS, HO, hG⟩ := hrel
          have HG := hide hG
          clear hG
          have HXr := hide (HLE.out _ HG.out)
          by_cases hltb : b < n
          · have hbi : (b : Int) < (n : Int) := by omega
            have hbi0 : (0 : Int) ≤ (b : Int) := by omega
            have hbit := bit_oneD hm8 b
            by_cases hbt : bts xs a b
            · rw [(bts_get HM.out b).1 hbt] at hbit
              obtain ⟨bn, on, u0, rfl, hbn, hu, wu, hcu⟩ := (HI2.out.ext (HE.out.trans HXr.out)).get hlt
              obtain ⟨bn', on', v0, e9, hbn', hv, wv, hcv⟩ := (HI2.out.ext (HE.out.trans HXr.out)).get hltb
              cases e9
              have hub := HP.out.2.2 u0 (List.mem_of_getElem? hu)
              have hvb := HP.out.2.2 v0 (List.mem_of_getElem? hv)
              obtain ⟨u, rfl⟩ : ∃ u : Nat, u0 = (u : Int) := ⟨u0.toNat, by omega⟩
              obtain ⟨v, rfl⟩ : ∃ v : Nat, v0 = (v : Int) := ⟨v0.toNat, by omega⟩
              have hun : u < n := by omega
              obtain ⟨b9, off9, y, e9, hbb9, hbl9, hy, wy, hcy, hfy⟩ := HO.out.get hun
              cases e9
              obtain ⟨mz, hmz, hmz8⟩ := rowsOk_get HS.out.1 hun
              rw [hmz] at hy
              obtain rfl : (mz : Int) = y := Option.some.inj hy
              obtain ⟨k0, k1, kf0, kf1, ks⟩ := two_cells (Ext.refl _) (HKR.out _ HG.out)
              have HNX := hide (renSt_yes hn8 HP.out.2.1 HS.out hbt hlt hltb hu hv (by omega) hmz hmz8)
              have HMS := hide (add_shl (m := mz) (b := v) (by omega) hmz8)
              have HSTO := hide (HO.out.store (k := u) rfl hun (x := ((mz + 2 ^ v : Nat) : Int)) (nat_i64D (by have := HNX.out.1; omega)))
              have hui : (u : Int) < (n : Int) := by omega
              have hui0 : (0 : Int) ≤ (u : Int) := by omega
              have hvi0 : (0 : Int) ≤ (v : Int) := by omega
              have hmin : min v 64 = v := by omega
              clear hbt hu hv hub hvb hmz hy
              go_wp2
              go_region
              all_goals
                go_wp2
                rw [HMS.out]
                go_roundw
                case rel => exact ⟨b + 1, _, by omega, by go_num, hide HNX.out.2, hide (HSTO.out.ext ((Ext.refl _).drew)), grown_trans (grown_trans HG.out (grown_setCell _ _ _) (.inr (.inl rfl))) (grown_drew _ _) (.inr (.inl rfl))⟩
                case measure => (simp [intOf] <;> omega)
            · have hbf : m.testBit b = false := by
                cases e : m.testBit b with
                | false => rfl
                | true => exact absurd ((bts_get HM.out b).2 e) hbt
              rw [hbf] at hbit
              have HNX := hide (renSt_no HS.out hbt)
              clear hbt hbf
              go_wp2
              go_roundw
              case rel => exact ⟨b + 1, zs, by omega, by go_num, HNX, HO, HG.out⟩
              case measure => (simp [intOf] <;> omega)
          · have hke : b = n := by omega
            subst hke
            have HNX := hide (renSt_next HS.out)
            go_wp2
            go_roundw
            case rel => exact ⟨a + 1, zs, by omega, by go_num, HNX, HO, HG.out⟩
            case measure => (simp [intOf] <;> omega)
      · have hke : a = n := by omega
        subst hke
        have hb6 := (HXr.out.block (k := w.heap.size + 1) (by have := HZ.out; omega)).trans BR.out
        obtain ⟨k0, k1, kf0, kf1, ks⟩ := two_cells (Ext.refl _) (HKR.out _ HG.out)
        obtain ⟨c00, c01, f00, f01, s00⟩ := two_cells (Ext.refl _) hb6
        have HTO := hide (renSt_end HT.out HP.out HS.out)
        clear hb6
        go_wp2
        refine bodyPost_ret (v := .agg #[.int .i64 (a : Int), .slice (some ⟨b', off', none⟩) a a]) (by simp [results, Tryd.results91, go_sem, c00, c01]) rfl ⟨zs, some ⟨b', off', none⟩, a, HTO.out, rfl, ?_, ((HE.out.trans HXr.out).setCell (p := ⟨w.heap.size + 1, 0, none⟩) (by show w.heap.size ≤ w.heap.size + 1; omega) _).setCell (p := ⟨w.heap.size + 1, 1, none⟩) (by show w.heap.size ≤ w.heap.size + 1; omega) _⟩
        exact ((HO.out.mono (by have := HZ.out; omega)).stored (k := w.heap.size + 1) _ _).mono (by omega)

end Go.Proofs.YtbaljgdepicigaaDoor
