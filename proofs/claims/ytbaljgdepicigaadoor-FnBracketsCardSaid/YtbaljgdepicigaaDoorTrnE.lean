/-
  Contract of the function that finds the best order.
-/
import Derived.Laws.ShiftsVar
import Derived.Deep.QuietTactic
import Derived.Great.Walk
import Derived.Deep.RegionLaw
import Derived.Deep.RegionHeld3
import Derived.Deep.DeepCutAuto
import Derived.Test.YtbaljgdepicigaaDoorBase
import Derived.Test.YtbaljgdepicigaaDoorMgA
import Derived.Test.YtbaljgdepicigaaDoorLib
import Derived.Test.YtbaljgdepicigaaDoorAid
import Derived.Test.YtbaljgdepicigaaDoorStep
import Derived.Test.YtbaljgdepicigaaDoorGrid
import Derived.Test.YtbaljgdepicigaaDoorLibF
import Derived.Test.YtbaljgdepicigaaDoorMgB
import Derived.Test.YtbaljgdepicigaaDoorMathBo
import Derived.Test.YtbaljgdepicigaaDoorMathBp
import Derived.Test.YtbaljgdepicigaaDoorPop
import Derived.Test.YtbaljgdepicigaaDoorDblB
import Derived.Test.YtbaljgdepicigaaDoorDblD
import Derived.Test.YtbaljgdepicigaaDoorTour
import Derived.Test.YtbaljgdepicigaaDoorWin
import Derived.Test.YtbaljgdepicigaaDoorWinE
import Derived.Test.YtbaljgdepicigaaDoorSortT
import Derived.Test.YtbaljgdepicigaaDoorDrwA
import Derived.Test.YtbaljgdepicigaaDoorTrnA
import Derived.Test.YtbaljgdepicigaaDoorTrnB
import Derived.Test.YtbaljgdepicigaaDoorTrnC
import Derived.Test.YtbaljgdepicigaaDoorTrnD
namespace Go.Proofs.YtbaljgdepicigaaDoor
open Go.RowKit
set_option linter.unusedVariables false
set_option maxRecDepth 100000

-- laws.stairs
theorem stairs_any (n : Nat) (w : World) (hn : n ≤ 65536) : Calls Tryd.prog 36 #[.int .i64 (n : Int)] w (RetI w (upto n)) := by
  have HO0 := hide (ints_lit0 w (Nat.le_refl _))
  have HE0 := hide (Ext.one w (.cells #[] 3))
  go_enter Tryd.func36, Tryd.ntmps36
  go_wp2
  go_loopw [3, 4] (fun o i wr => ∃ (k co : Nat) (Ao : Option Addr), k ≤ n ∧ i = .int .i64 (k : Int) ∧ o = .slice Ao k co ∧ Hid (OwI wr w.heap.size Ao k co (upto k)) ∧ Hid (Ext w wr)) (fun _ i _ => n - (intOf i).toNat)
  case atStart => exact ⟨0, _, _, Nat.zero_le _, rfl, rfl, HO0, HE0⟩
  case round =>
    obtain ⟨k, co, Ao, hk, rfl, rfl, HO, HER⟩ := hrel
    by_cases hlt : k < n
    · have hki : (k : Int) < (n : Int) := by omega
      have hsz := HER.out.size
      have HUS := hide (upto_snoc k)
      go_wp2_with (at_builtin; refine push_ints (base := w.heap.size) rfl (.tmp 11) (.tmp 13) rfl rfl (HO.out.ext (Ext.one _ _)) (some ⟨_, 0, none⟩) 1 1 [(k : Int)] rfl (ints_lit1 _ (base := 0) (k : Int) ⟨by omega, by omega⟩ (Nat.zero_le _)).ints (by omega) (by simp; omega) ?_; intro B5 d5 w5 hb5 hg5 hat5)
      go_roundw
      case rel => exact ⟨k + 1, d5, B5, by omega, by go_num, rfl, hide (by rw [HUS.out]; exact hb5), hide ((HER.out.alloc _).grown hg5 (fun k hk => (HO.out.block k hk).1))⟩
      case measure => (simp [intOf] <;> omega)
    · have hke : k = n := by omega
      subst hke
      go_wp2
      go_ret
      exact RetI.mk rfl HO.out HER.out
-- impl.BestOrder
theorem full_val {n N : Nat} (hn : n ≤ 8) (hN : 2 ^ n = N) : wrap64 (wrap64 (2 ^ n) - 1) = ((N - 1 : Nat) : Int) := by
  have h1 := Nat.two_pow_pos n
  have h2 := pow8 hn
  have h3 : ((2 ^ n : Nat) : Int) = (2 : Int) ^ n := by simp
  rw [shl_one n hn, ← h3, hN]
  rw [hN] at h1 h2
  unfold wrap64; omega
set_option maxHeartbeats 8000000 in
theorem iBest_any (n : Nat) (A : Option Addr) (c : Nat) (xs : List Int) (w : World) (ht : tourOk (n : Int) xs) (h : Ints w A n c xs) :
    Calls Tryd.prog 35 #[.agg #[.int .i64 (n : Int), .slice A n c]] w fun e w' => ∃ out, RetI w out e w' ∧ (monoT n xs → out = upto n) ∧ (out = upto n → (∃ o, noRev n xs o) → monoT n xs) := by
  have HI := hide h
  have HT := hide ht
  have hs := tourOk_size ht
  have hl := h.len
  have hn8 : n ≤ 8 := by omega
  obtain ⟨N, hN⟩ : ∃ N, 2 ^ n = N := ⟨_, rfl⟩
  have hN8 : N ≤ 256 := by rw [← hN]; exact pow8 hn8
  have hN1 : 1 ≤ N := by rw [← hN]; exact Nat.two_pow_pos n
  have HFU := hide (full_val hn8 hN)
  have HN := hide hN
  have hn64 : n < 64 := by omega
  obtain ⟨W, hW⟩ : ∃ W : World, W = w.alloc (.cells #[.int .i64 (n : Int), .slice A n c] 26) := ⟨_, rfl⟩
  have HE := hide (show Ext w W by rw [hW]; exact Ext.one _ _)
  have B0 := hide (show W.cell? ⟨w.heap.size, 0, none⟩ = some (.int .i64 (n : Int)) by rw [hW]; simp)
  have B1 := hide (show W.cell? ⟨w.heap.size, 1, none⟩ = some (.slice A n c) by rw [hW]; simp)
  have HW := hide hW
  clear h hW ht hs hl hN
  go_enter Tryd.func35, Tryd.ntmps35
  go_wp2_with fail
  rw [← HW.out]
  refine (iTourOk_any _ _ _ _ xs _ (HI.out.ext HE.out)).mono ?_
  rw [decide_eq_true HT.out]
  rintro e w1 ⟨rfl, hE1⟩
  have HE1 := hide hE1
  have b0 := hE1.get B0.out
  have b1 := hE1.get B1.out
  clear hE1
  go_wp2_with fail
  refine (arranged_any n N A c xs w1 HN.out HT.out (HI.out.ext (HE.out.trans HE1.out))).mono ?_
  rintro e w2 ⟨A1, A2, cA1, cA2, F, rfl, hF, hopt, hE2⟩
  have HF := hide hF
  have HOP := hide hopt
  have HE2 := hide (HE1.out.trans hE2)
  have c0 := hE2.get b0
  have C1 := hide (hE2.get b1)
  clear hF hopt hE2 b0 b1
  go_wp2
  rw [HFU.out]
  go_loopw [5, 6] (fun o s wr => ∃ (S co L : Nat) (Ao : Option Addr) (out : List Int), L + S < N ∧ s = .int .i64 (S : Int) ∧ o = .slice Ao L co ∧ Hid (OwI wr w2.heap.size Ao L co out) ∧ Hid (BestT n xs F out S) ∧ Hid (Ext w2 wr)) (fun _ s _ => (intOf s).toNat)
  case atStart => exact ⟨N - 1, 0, 0, none, [], by omega, rfl, rfl, hide (OwI.nil _ _), hide (by rw [← HN.out]; exact best_start n xs F), hide (Ext.refl _)⟩
  case round => as_aux_lemma =>
    obtain ⟨S, co, L, Ao, out, hLS, rfl, rfl, HO, HB, HER⟩ := hrel
    have hSN : S < N := by omega
    obtain ⟨wb, rfl⟩ : ∃ wb : World, wb = wr := ⟨_, rfl⟩
    by_cases hS0 : S = 0
    · subst hS0
      have HEN := hide (best_end HT.out (HN.out ▸ HOP.out) HB.out)
      have hz : ¬ (0 : Int) < ((0 : Nat) : Int) := by omega
      go_wp2
      go_ret
      exact ⟨out, RetI.mk rfl (HO.out.mono (Nat.le_trans HE.out.size HE2.out.size)) (HE.out.trans (HE2.out.trans HER.out)), HEN.out.1, fun e o ho => HEN.out.2 e ⟨o, ho⟩⟩
    · have hSp : (0 : Int) < (S : Int) := by omega
      have hS8 : S < 256 := by omega
      have hS2n : S < 2 ^ n := by rw [HN.out]; exact hSN
      go_wp2_with fail
      refine (membersOf_small S hS8 wb).mono ?_
      rintro e w4 ⟨M, mc, rfl, hoM, hE4⟩
      obtain ⟨m, hm⟩ : ∃ m, (mems S).length = m := ⟨_, rfl⟩
      rw [hm] at hoM ⊢
      have HML := hide hm
      have hm8 : m ≤ 8 := by have h9 := memTo_len S 8; have h10 : (mems S).length ≤ 8 := h9; omega
      have HM4 := hide hoM.ints
      have HE4 := hide (HER.out.trans hE4)
      have HO4 := hide (HO.out.ext hE4)
      have HEX := hide (HOP.out.ex S (by omega) hSN)
      clear hoM hE4 hm
      go_wp2
      go_loopw [5, 6, 26] (fun o s i wr => ∃ k : Nat, k ≤ m ∧ i = .int .i64 (k : Int) ∧ o = .slice Ao L co ∧ s = .int .i64 (S : Int) ∧ Hid (∀ i (a : Nat), i < k → (mems S)[i]? = some (a : Int) → ¬ (costT xs n a S : Int) + F.getD (S - 2 ^ a) 0 = F.getD S 0) ∧ Hid (Ext w4 wr)) (fun _ _ i _ => m - (intOf i).toNat)
      case atStart => exact ⟨0, Nat.zero_le _, rfl, rfl, rfl, hide (fun i a h => by omega), hide (Ext.refl _)⟩
      case round => as_aux_lemma =>
        obtain ⟨k, hk, rfl, rfl, rfl, HNO, HEr⟩ := hrel
        by_cases hkm : k < m
        · have hki : (k : Int) < (m : Int) := by omega
          obtain ⟨b, off, y, rfl, hbl, hy, wy, hcm⟩ := (HM4.out.ext HEr.out).get hkm
          obtain ⟨a, ha8, hab, rfl⟩ := mem_mems.1 (List.mem_of_getElem? hy)
          have han : a < n := bit_in hS2n hab
          have hsb := sub_bit hab
          have hlb := leg_bnd HOP.out (Nat.le_of_lt hSN) hab
          have HNX := hide (fun hne i (x : Nat) (hi : i < k + 1) (hx : (mems S)[i]? = some (x : Int)) => show ¬ (costT xs n x S : Int) + F.getD (S - 2 ^ x) 0 = F.getD S 0 from by
            by_cases e : i = k
            · subst e
              rw [hy] at hx
              have : a = x := by have := Option.some.inj hx; omega
              subst this
              exact hne
            · exact HNO.out i x (by omega) hx)
          have HBS := hide (fun he => best_step HT.out (HN.out ▸ HOP.out) HB.out hab he)
          obtain ⟨T, hT⟩ : ∃ T, S - 2 ^ a = T := ⟨_, rfl⟩
          rw [hT] at hlb hsb HNX HBS
          have hTS : T < S := by omega
          have hTN : T < N := by omega
          have hrest : bits .andNot .i64 (S : Int) (wrap64 (2 ^ a)) = (T : Int) := by rw [(shl_natD a ha8).1, andnot_bitB hS8 ha8 hab, hT]
          have ha64 : a < 64 := by omega
          have HEw := hide (HE4.out.trans HEr.out)
          obtain ⟨bF, oF, fv, e, _, hfv, wfv, hcT⟩ := (HF.out.ext HEw.out).get hTN
          subst e
          have hFT : F.getD T 0 = fv := by rw [List.getD_eq_getElem?_getD, hfv]; rfl
          obtain ⟨bF2, oF2, sv', e, _, hsv, wsv, hcS⟩ := (HF.out.ext HEw.out).get hSN
          cases e
          have hFS : F.getD S 0 = sv' := by rw [List.getD_eq_getElem?_getD, hsv]; rfl
          have HFS := hide hFS
          rw [hFT] at hlb HNX HBS
          rw [hFS] at HNX HBS
          have CF := hide (fun (e : After wr) => firstCost_any n A c xs a S e.val HT.out (HI.out.ext (HE.out.trans (HE2.out.trans (HEw.out.trans e.property)))) han hS8)
          generalize costT xs n a S = q at *
          obtain ⟨V, hV⟩ : ∃ V, (q : Int) + fv = V := ⟨_, rfl⟩
          rw [hV] at hlb HNX HBS
          have hwV : IntKind.i64.wrap ((q : Int) + fv) = V := by rw [hV, IntKind.wrap_i64]; omega
          have hTi : (T : Int) < (N : Int) := by omega
          have hSi : (S : Int) < (N : Int) := by omega
          have d0 := after_cell (HEr.out.get (HE4.out.get c0))
          have d1 := after_cell (HEr.out.get (HE4.out.get C1.out))
          have dT := after_cell hcT
          have dS := after_cell hcS
          clear hy hab hT hfv hFT hsv hFS wy hbl hsb hV
          go_upto_region 10 with fail
          refine wp_region_ext (by as_aux_lemma => kernel_rfl) (by as_aux_lemma => kernel_rfl) ?_
          repeat (go_big_quiet_step ((go_at_call 76; with_reducible exact after_call (CF.out _))))
          refine wpQuiet_nil ?_
          rintro w5 ⟨⟨w5, hE5⟩, rfl⟩
          clear d0 d1 dT dS hwV
          have HE5 := hide (HEw.out.trans hE5)
          have HE45 := hide (HEr.out.trans hE5)
          have HO5 := hide (HO4.out.ext HE45.out)
          have hsz := HE5.out.size
          clear hE5
          by_cases he : V = sv'
          · have heb : (V == sv') = true := by simpa using he
            have HBN := hide (HBS.out he)
            clear he
            go_wp2_with (at_builtin; refine push_ints (base := w2.heap.size) rfl (.tmp 47) (.tmp 49) rfl rfl (HO5.out.ext (Ext.one _ _)) (some ⟨_, 0, none⟩) 1 1 [(a : Int)] rfl (ints_lit1 _ (base := 0) (a : Int) ⟨by omega, by omega⟩ (Nat.zero_le _)).ints (by omega) (by simp; omega) ?_; intro B5 d5 w6 hb5 hg5 hat5)
            clear hrest
            go_roundw
            case rel => exact ⟨T, d5, L + 1, B5, out ++ [(a : Int)], by omega, rfl, rfl, hide hb5, HBN, hide ((HE5.out.alloc _).grown hg5 (fun k hk => (HO5.out.block k hk).1))⟩
            case measure => (simp [intOf] <;> omega)
          · have heb : (V == sv') = false := by simpa using he
            have HNN := hide (HNX.out he)
            clear he hrest
            go_wp2
            go_roundw
            case rel => exact ⟨k + 1, by omega, by go_num, rfl, rfl, hide (by rw [HFS.out]; exact HNN.out), HE45⟩
            case measure => (simp [intOf] <;> omega)
        · exfalso
          obtain ⟨a, hab, he⟩ := HEX.out
          have han := bit_in hS2n hab
          obtain ⟨i, hi, hx⟩ := List.getElem_of_mem (mem_mems.2 ⟨a, by omega, hab, rfl⟩ : (a : Int) ∈ mems S)
          exact HNO.out i a (by rw [HML.out] at hi; omega) (by rw [List.getElem?_eq_getElem hi, hx]) he.symm

end Go.Proofs.YtbaljgdepicigaaDoor
