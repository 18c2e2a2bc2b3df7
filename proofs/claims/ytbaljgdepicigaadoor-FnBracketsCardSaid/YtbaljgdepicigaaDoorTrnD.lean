/-
  Contract of the function that finds the least numbers of reversals of all sets.
-/
import Derived.Laws.ShiftsVar
import Derived.Deep.QuietTactic
import Derived.Great.Walk
import Derived.Deep.RegionLaw
import Derived.Deep.RegionHeld3
import Derived.Deep.DeepCutAuto
import Derived.Test.YtbaljgdepicigaaDoorBase
import Derived.Test.YtbaljgdepicigaaDoorMgA
import Derived.Test.YtbaljgdepicigaaDoorLib
import Derived.Test.YtbaljgdepicigaaDoorAid
import Derived.Test.YtbaljgdepicigaaDoorStep
import Derived.Test.YtbaljgdepicigaaDoorGrid
import Derived.Test.YtbaljgdepicigaaDoorLibF
import Derived.Test.YtbaljgdepicigaaDoorMgB
import Derived.Test.YtbaljgdepicigaaDoorMathBo
import Derived.Test.YtbaljgdepicigaaDoorMathBp
import Derived.Test.YtbaljgdepicigaaDoorPop
import Derived.Test.YtbaljgdepicigaaDoorDblB
import Derived.Test.YtbaljgdepicigaaDoorDblD
import Derived.Test.YtbaljgdepicigaaDoorTour
import Derived.Test.YtbaljgdepicigaaDoorWin
import Derived.Test.YtbaljgdepicigaaDoorWinE
import Derived.Test.YtbaljgdepicigaaDoorSortT
import Derived.Test.YtbaljgdepicigaaDoorDrwA
import Derived.Test.YtbaljgdepicigaaDoorTrnA
import Derived.Test.YtbaljgdepicigaaDoorTrnB
import Derived.Test.YtbaljgdepicigaaDoorTrnC
namespace Go.Proofs.YtbaljgdepicigaaDoor
open Go.RowKit
set_option linter.unusedVariables false
set_option maxRecDepth 100000

-- (impl.Tour).arranged
theorem andnot_bitB {m a : Nat} (hm : m < 256) (ha : a < 8) (h : m.testBit a = true) : bits .andNot .i64 (m : Int) ((2 ^ a : Nat) : Int) = ((m - 2 ^ a : Nat) : Int) := by
  have hp : 2 ^ a ≤ 256 := Nat.pow_le_pow_right (n := 2) (j := 8) (by omega) (by omega)
  have h1 : (BitVec.ofInt 64 (m : Int)).toNat = m := by
    rw [BitVec.ofInt_natCast, BitVec.toNat_ofNat]; exact Nat.mod_eq_of_lt (by omega)
  have h2 : (BitVec.ofInt 64 ((2 ^ a : Nat) : Int)).toNat = 2 ^ a := by
    rw [BitVec.ofInt_natCast, BitVec.toNat_ofNat]; exact Nat.mod_eq_of_lt (by omega)
  have h3 : m &&& (2 ^ 64 - 1 - 2 ^ a) = m - 2 ^ a := by
    apply Nat.eq_of_testBit_eq
    intro i
    rw [Nat.testBit_and, show 2 ^ 64 - 1 - 2 ^ a = 2 ^ 64 - (2 ^ a + 1) by omega, Nat.testBit_two_pow_sub_succ (by omega), take_bitB h, Nat.testBit_two_pow]
    by_cases hi : i < 64
    · simp [hi]
    · have h2 : m.testBit i = false := Nat.testBit_lt_two_pow (Nat.lt_of_lt_of_le hm (Nat.pow_le_pow_right (n := 2) (i := 8) (by omega) (by omega)))
      simp [h2]
  show IntKind.i64.wrap ((BitVec.ofInt 64 (m : Int) &&& ~~~ BitVec.ofInt 64 ((2 ^ a : Nat) : Int)).toNat : Int) = _
  rw [BitVec.toNat_and, BitVec.toNat_not, h1, h2, h3, IntKind.wrap_i64]
  have : m - 2 ^ a ≤ m := Nat.sub_le _ _
  generalize m - 2 ^ a = z at *
  omega
theorem opt_zero {n N : Nat} (xs : List Int) (hN : 2 ^ n = N) : OptT n xs (List.replicate N 0) 1 := by
  have hp := Nat.two_pow_pos n
  have g : ∀ S, (List.replicate N (0 : Int)).getD S 0 = 0 := fun S => by
    rw [List.getD_eq_getElem?_getD, List.getElem?_replicate]
    split <;> rfl
  exact ⟨by rw [List.length_replicate, hN], g 0, fun S hS => by rw [g]; omega, fun S a h1 h2 => by omega, fun S h1 h2 => by omega⟩
/-- The least numbers come back, beside some other list. -/
def RetOpt (n N : Nat) (xs : List Int) (w : World) (e : Ending) (w' : World) : Prop := ∃ (A1 A2 : Option Addr) (c1 c2 : Nat) (F : List Int), e = .returned (.tuple #[.slice A1 N c1, .slice A2 N c2]) ∧ Ints w' A1 N c1 F ∧ OptT n xs F N ∧ Ext w w'
set_option maxHeartbeats 8000000 in
theorem arranged_any (n N : Nat) (A : Option Addr) (c : Nat) (xs : List Int) (w : World) (hN : 2 ^ n = N) (ht : tourOk (n : Int) xs) (h : Ints w A n c xs) :
    Calls Tryd.prog 75 #[.agg #[.int .i64 (n : Int), .slice A n c]] w (RetOpt n N xs w) := by
  have HI := hide h
  have HT := hide ht
  have hs := tourOk_size ht
  have hl := h.len
  have hn8 : n ≤ 8 := by omega
  have hN8 : N ≤ 256 := by rw [← hN]; exact pow8 hn8
  have hN1 : 1 ≤ N := by rw [← hN]; exact Nat.two_pow_pos n
  have HN := hide hN
  have hn64 : n < 64 := by omega
  have hmk : ∀ w : World, (Instr.makeSlice 23 (.int .i64 (wrap64 (2 ^ n))) (.int .i64 (wrap64 (2 ^ n)))).run Tryd.prog w = .ok (.slice (some ⟨w.heap.size, 0, none⟩) N N) (w.alloc (.cells (zeroRow N) 3)) := by
    have e : wrap64 (2 ^ n) = (N : Int) := by rw [shl_one n hn8, ← hN]; simp
    rw [e]
    exact run_make_ints N (by omega)
  obtain ⟨W, hW⟩ : ∃ W : World, W = w.alloc (.cells #[.int .i64 (n : Int), .slice A n c] 26) := ⟨_, rfl⟩
  have HE := hide (show Ext w W by rw [hW]; exact Ext.one _ _)
  have B0 := hide (show W.cell? ⟨w.heap.size, 0, none⟩ = some (.int .i64 (n : Int)) by rw [hW]; simp)
  have B1 := hide (show W.cell? ⟨w.heap.size, 1, none⟩ = some (.slice A n c) by rw [hW]; simp)
  have HW := hide hW
  have b0 := B0.out
  have e0 := (Ext.one W (.cells (zeroRow N) 3)).get b0
  have HZA := hide (show OwI (((W.alloc (.cells (zeroRow N) 3)).alloc (.cells (zeroRow N) 3)).drew) W.heap.size (some ⟨W.heap.size, 0, none⟩) N N (List.replicate N 0) from ((OwI.zeros W N (by omega) (Nat.le_refl _)).ext (Ext.one _ _)).ext (Ext.refl _).drew)
  have HZB := hide (show OwI (((W.alloc (.cells (zeroRow N) 3)).alloc (.cells (zeroRow N) 3)).drew) W.heap.size (some ⟨W.heap.size + 1, 0, none⟩) N N (List.replicate N 0) from by
    have := (OwI.zeros (W.alloc (.cells (zeroRow N) 3)) (base := W.heap.size) N (by omega) (by simp)).ext ((Ext.refl _).drew)
    rwa [World.size_alloc] at this)
  have HEZ := hide (show Ext W (((W.alloc (.cells (zeroRow N) 3)).alloc (.cells (zeroRow N) 3)).drew) from (((Ext.refl W).alloc _).alloc _).drew)
  clear h hW ht hs hl hN
  go_enter Tryd.func75, Tryd.ntmps75
  go_upto_region 1 with fail
  rw [← HW.out]
  go_cut [4, 5] (fun s4 s5 wx => ∃ X Y : Nat, X ≠ Y ∧ (W.heap.size ≤ X ∧ W.heap.size ≤ Y) ∧ s4 = .slice (some ⟨X, 0, none⟩) N N ∧ s5 = .slice (some ⟨Y, 0, none⟩) N N ∧ OwI wx W.heap.size (some ⟨X, 0, none⟩) N N (List.replicate N 0) ∧ OwI wx W.heap.size (some ⟨Y, 0, none⟩) N N (List.replicate N 0) ∧ Ext W wx)
  case first =>
    go_region
    all_goals
      go_wp2
      go_meet
      case rel => first | exact ⟨W.heap.size, W.heap.size + 1, by omega, by omega, rfl, rfl, HZA.out, HZB.out, HEZ.out⟩ | exact ⟨W.heap.size + 1, W.heap.size, by omega, by omega, rfl, rfl, HZB.out, HZA.out, HEZ.out⟩
  case rest =>
    obtain ⟨X, Y, hXY, hXl, rfl, rfl, hoX, hoY, hE1⟩ := hcut
    obtain ⟨w1, rfl⟩ : ∃ w1 : World, w1 = wc := ⟨_, rfl⟩
    have HX1 := hide hoX
    have HY1 := hide hoY
    have HE1 := hide hE1
    clear hoX hoY hE1 b0 e0 hmk HZA HZB HEZ
    obtain ⟨b, off, u, e, _, _, _, _, hcy, hfy⟩ := HY1.out.get (k := 0) (by omega)
    cases e
    simp only [Nat.zero_add] at hcy hfy
    have HYS := hide (show OwI (w1.setCell ⟨Y, 0, none⟩ (.int .i64 1)) W.heap.size (some ⟨Y, 0, none⟩) N N ((List.replicate N 0).set 0 1) from by
      have := HY1.out.store rfl (k := 0) (by omega) (x := 1) ⟨by omega, by omega⟩
      rwa [Nat.zero_add] at this)
    have HXS := hide (show OwI (w1.setCell ⟨Y, 0, none⟩ (.int .i64 1)) W.heap.size (some ⟨X, 0, none⟩) N N (List.replicate N 0) from HX1.out.grown (grown_setCell _ _ _) (.inl (by simpa using hXY)))
    have HES := hide (show Ext W (w1.setCell ⟨Y, 0, none⟩ (.int .i64 1)) from HE1.out.grown (grown_setCell _ _ _) (fun k hk => by cases hk; exact hXl.2))
    have hN0 : 0 < N := by omega
    have hN0i : (0 : Int) < (N : Int) := by omega
    go_wp2
    obtain ⟨w2, hw2⟩ : ∃ w2 : World, w2 = w1.setCell ⟨Y, 0, none⟩ (.int .i64 1) := ⟨_, rfl⟩
    rw [← hw2] at HYS HXS HES ⊢
    clear hw2 hcy hfy
    go_loopw [6] (fun s wr => ∃ S : Nat, 1 ≤ S ∧ S ≤ N ∧ s = .int .i64 (S : Int) ∧ Hid (∃ F G, OwI wr W.heap.size (some ⟨X, 0, none⟩) N N F ∧ OwI wr W.heap.size (some ⟨Y, 0, none⟩) N N G ∧ OptT n xs F S) ∧ Hid (Ext W wr)) (fun s _ => N - (intOf s).toNat)
    case atStart => exact ⟨1, Nat.le_refl _, hN1, rfl, hide ⟨_, _, HXS.out, HYS.out, opt_zero xs HN.out⟩, HES⟩
    case round => as_aux_lemma =>
      obtain ⟨S, hS1, hSN, rfl, HF, HER⟩ := hrel
      obtain ⟨wb, rfl⟩ : ∃ wb : World, wb = wr := ⟨_, rfl⟩
      obtain ⟨F, G, hFX, hGY, hopt⟩ := HF.out
      have HFX := hide hFX
      have HGY := hide hGY
      have HOP := hide hopt
      clear hFX hGY hopt HF
      by_cases hlt : S < N
      · have hSi : (S : Int) < (N : Int) := by omega
        have hS8 : S < 256 := by omega
        have hS2n : S < 2 ^ n := by rw [HN.out]; exact hlt
        obtain ⟨b, off, u, e, _, _, _, _, hcx, hfx⟩ := HFX.out.get hlt
        cases e
        simp only [Nat.zero_add] at hcx hfx
        have HXS2 := hide (show OwI (wb.setCell ⟨X, S, none⟩ (.int .i64 (-1))) W.heap.size (some ⟨X, 0, none⟩) N N (F.set S (-1)) from by
          have := HFX.out.store rfl hlt (x := -1) ⟨by omega, by omega⟩
          rwa [Nat.zero_add] at this)
        have HYS2 := hide (show OwI (wb.setCell ⟨X, S, none⟩ (.int .i64 (-1))) W.heap.size (some ⟨Y, 0, none⟩) N N G from HGY.out.grown (grown_setCell _ _ _) (.inl (by simpa using Ne.symm hXY)))
        have HES2 := hide (show Ext W (wb.setCell ⟨X, S, none⟩ (.int .i64 (-1))) from HER.out.grown (grown_setCell _ _ _) (fun k hk => by cases hk; exact hXl.1))
        go_wp2_with fail
        obtain ⟨w3, hw3⟩ : ∃ w3 : World, w3 = wb.setCell ⟨X, S, none⟩ (.int .i64 (-1)) := ⟨_, rfl⟩
        rw [← hw3] at HXS2 HYS2 HES2 ⊢
        clear hw3 hcx hfx
        refine (membersOf_small S hS8 w3).mono ?_
        rintro e w4 ⟨M, mc, rfl, hoM, hE4⟩
        obtain ⟨m, hm⟩ : ∃ m, (mems S).length = m := ⟨_, rfl⟩
        rw [hm] at hoM ⊢
        have HML := hide hm
        have hm8 : m ≤ 8 := by have h9 := memTo_len S 8; have h10 : (mems S).length ≤ 8 := h9; omega
        have HM4 := hide hoM.ints
        have HMX := hide (show M.map (·.block) ≠ some X ∧ M.map (·.block) ≠ some Y from ⟨fun e => by have h1 := (hoM.block X e).1; have h2 := (HXS2.out.block X rfl).2; omega, fun e => by have h1 := (hoM.block Y e).1; have h2 := (HYS2.out.block Y rfl).2; omega⟩)
        have HX4 := hide (HXS2.out.ext hE4)
        have HY4 := hide (HYS2.out.ext hE4)
        have HE4 := hide (HES2.out.trans hE4)
        clear hoM hE4 hm
        go_wp2
        go_loopw [33] (fun i wr => ∃ (k : Nat) (v : Int) (G : List Int), k ≤ m ∧ i = .int .i64 (k : Int) ∧ Hid (OwI wr W.heap.size (some ⟨X, 0, none⟩) N N (F.set S v)) ∧ Hid (OwI wr W.heap.size (some ⟨Y, 0, none⟩) N N G) ∧ Hid (MinT n xs F S k v) ∧ Hid (Ints wr M m mc (mems S)) ∧ Hid (Ext W wr)) (fun i _ => m - (intOf i).toNat)
        case atStart => exact ⟨0, -1, G, Nat.zero_le _, rfl, HX4, HY4, hide (min_start n xs F S), HM4, HE4⟩
        case round => as_aux_lemma =>
          obtain ⟨k, v, G2, hk, rfl, HXr, HYr, HMN, HMr, HEr⟩ := hrel
          by_cases hkm : k < m
          · have hki : (k : Int) < (m : Int) := by omega
            obtain ⟨b, off, y, rfl, hbl, hy, wy, hcm⟩ := HMr.out.get hkm
            obtain ⟨a, ha8, hab, rfl⟩ := mem_mems.1 (List.mem_of_getElem? hy)
            have han : a < n := bit_in hS2n hab
            have hsb := sub_bit hab
            have HST := hide (min_step HOP.out HMN.out hy)
            have hlb := leg_bnd HOP.out (Nat.le_refl _) hab
            have hcb := cost_bound xs n a S
            obtain ⟨T, hT⟩ : ∃ T, S - 2 ^ a = T := ⟨_, rfl⟩
            rw [hT] at HST hlb hsb
            have hTS : T < S := by omega
            have hTN : T < N := by omega
            have hrest : bits .andNot .i64 (S : Int) (wrap64 (2 ^ a)) = (T : Int) := by rw [(shl_natD a ha8).1, andnot_bitB hS8 ha8 hab, hT]
            have ha64 : a < 64 := by omega
            obtain ⟨_, _, fv, e, _, _, hfv, wfv, hcT, _⟩ := HXr.out.get hTN
            cases e
            rw [List.getElem?_set_ne (by omega)] at hfv
            have hFT : F.getD T 0 = fv := by rw [List.getD_eq_getElem?_getD, hfv]; rfl
            rw [hFT] at HST hlb
            obtain ⟨_, _, vv, e, _, _, hvv, wvv, hcS, hfS⟩ := HXr.out.get hlt
            cases e
            rw [List.getElem?_set_self (by rw [HFX.out.len]; exact hlt)] at hvv
            obtain rfl : v = vv := Option.some.inj hvv
            obtain ⟨_, _, gT, e, _, _, hgT, wgT, hcG, _⟩ := HYr.out.get hTN
            cases e
            simp only [Nat.zero_add] at hcT hcS hfS hcG
            have CF := hide (fun (e : After wr) => firstCost_any n A c xs a S e.val HT.out (HI.out.ext (HE.out.trans (HEr.out.trans e.property))) han hS8)
            generalize costT xs n a S = q at *
            obtain ⟨L, hL⟩ : ∃ L, (q : Int) + fv = L := ⟨_, rfl⟩
            rw [hL] at HST hlb
            have hwL : IntKind.i64.wrap ((q : Int) + fv) = L := by rw [hL, IntKind.wrap_i64]; omega
            have hTi : (T : Int) < (N : Int) := by omega
            clear hy hab hT hfv hFT hvv hgT wy hbl hsb hcb hL
            go_upto_region 11 with fail
            clear hrest
            have d0 := after_cell (HEr.out.get B0.out)
            have d1 := after_cell (HEr.out.get B1.out)
            have dT := after_cell hcT
            refine wp_region_ext (by as_aux_lemma => kernel_rfl) (by as_aux_lemma => kernel_rfl) ?_
            repeat (go_big_quiet_step ((go_at_call 76; with_reducible exact after_call (CF.out _))))
            refine wpQuiet_nil ?_
            rintro w5 ⟨⟨w5, hE5⟩, rfl⟩
            clear d0 d1 dT hwL
            have hcS5 := hE5.get hcS
            have hcG5 := hE5.get hcG
            have hfS5 := (hE5.frozen (p := ⟨X, S, none⟩) (World.block_lt_of_cell? wr _ hcS)).trans hfS
            have HX5 := hide (HXr.out.ext hE5)
            have HY5 := hide (HYr.out.ext hE5)
            have HM5 := hide (HMr.out.ext hE5)
            have HE5 := hide (HEr.out.trans hE5)
            clear hE5 hcS hcG hfS hcT hcm
            by_cases hv0 : v < 0
            · have HNX := hide (show MinT n xs F S (k + 1) L by have := HST.out; rwa [if_pos (.inl hv0)] at this)
              have HX6 := hide (show OwI (w5.setCell ⟨X, S, none⟩ (.int .i64 L)) W.heap.size (some ⟨X, 0, none⟩) N N (F.set S L) from by
                have h9 := HX5.out.store rfl hlt (x := L) ⟨by omega, by omega⟩
                rw [Nat.zero_add, List.set_set] at h9
                exact h9)
              have HY6 := hide (show OwI (w5.setCell ⟨X, S, none⟩ (.int .i64 L)) W.heap.size (some ⟨Y, 0, none⟩) N N G2 from HY5.out.grown (grown_setCell _ _ _) (.inl (by simpa using Ne.symm hXY)))
              obtain ⟨_, _, gS, e, _, _, _, _, hcg, hfg⟩ := HY6.out.get hlt
              cases e
              simp only [Nat.zero_add] at hcg hfg
              have HY7 := hide (show OwI ((w5.setCell ⟨X, S, none⟩ (.int .i64 L)).setCell ⟨Y, S, none⟩ (.int .i64 gT)) W.heap.size (some ⟨Y, 0, none⟩) N N (G2.set S gT) from by
                have h9 := HY6.out.store rfl hlt (x := gT) wgT
                rw [Nat.zero_add] at h9
                exact h9)
              have HX7 := hide (show OwI ((w5.setCell ⟨X, S, none⟩ (.int .i64 L)).setCell ⟨Y, S, none⟩ (.int .i64 gT)) W.heap.size (some ⟨X, 0, none⟩) N N (F.set S L) from HX6.out.grown (grown_setCell _ _ _) (.inl (by simpa using hXY)))
              have HM7 := hide (show Ints ((w5.setCell ⟨X, S, none⟩ (.int .i64 L)).setCell ⟨Y, S, none⟩ (.int .i64 gT)) (some ⟨b, off, none⟩) m mc (mems S) from (HM5.out.grown (grown_setCell _ _ _) (.inl HMX.out.1)).grown (grown_setCell _ _ _) (.inl HMX.out.2))
              have HE7 := hide (show Ext W ((w5.setCell ⟨X, S, none⟩ (.int .i64 L)).setCell ⟨Y, S, none⟩ (.int .i64 gT)) from (HE5.out.grown (grown_setCell _ _ _) (fun k hk => by cases hk; exact hXl.1)).grown (grown_setCell _ _ _) (fun k hk => by cases hk; exact hXl.2))
              go_wp2
              go_roundw
              case rel => exact ⟨k + 1, L, G2.set S gT, by omega, by go_num, HX7, HY7, HNX, HM7, HE7⟩
              case measure => (simp [intOf] <;> omega)
            · by_cases hLv : L < v
              · have HNX := hide (show MinT n xs F S (k + 1) L by have := HST.out; rwa [if_pos (.inr hLv)] at this)
                have HX6 := hide (show OwI (w5.setCell ⟨X, S, none⟩ (.int .i64 L)) W.heap.size (some ⟨X, 0, none⟩) N N (F.set S L) from by
                  have h9 := HX5.out.store rfl hlt (x := L) ⟨by omega, by omega⟩
                  rw [Nat.zero_add, List.set_set] at h9
                  exact h9)
                have HY6 := hide (show OwI (w5.setCell ⟨X, S, none⟩ (.int .i64 L)) W.heap.size (some ⟨Y, 0, none⟩) N N G2 from HY5.out.grown (grown_setCell _ _ _) (.inl (by simpa using Ne.symm hXY)))
                obtain ⟨_, _, gS, e, _, _, _, _, hcg, hfg⟩ := HY6.out.get hlt
                cases e
                simp only [Nat.zero_add] at hcg hfg
                have HY7 := hide (show OwI ((w5.setCell ⟨X, S, none⟩ (.int .i64 L)).setCell ⟨Y, S, none⟩ (.int .i64 gT)) W.heap.size (some ⟨Y, 0, none⟩) N N (G2.set S gT) from by
                  have h9 := HY6.out.store rfl hlt (x := gT) wgT
                  rw [Nat.zero_add] at h9
                  exact h9)
                have HX7 := hide (show OwI ((w5.setCell ⟨X, S, none⟩ (.int .i64 L)).setCell ⟨Y, S, none⟩ (.int .i64 gT)) W.heap.size (some ⟨X, 0, none⟩) N N (F.set S L) from HX6.out.grown (grown_setCell _ _ _) (.inl (by simpa using hXY)))
                have HM7 := hide (show Ints ((w5.setCell ⟨X, S, none⟩ (.int .i64 L)).setCell ⟨Y, S, none⟩ (.int .i64 gT)) (some ⟨b, off, none⟩) m mc (mems S) from (HM5.out.grown (grown_setCell _ _ _) (.inl HMX.out.1)).grown (grown_setCell _ _ _) (.inl HMX.out.2))
                have HE7 := hide (show Ext W ((w5.setCell ⟨X, S, none⟩ (.int .i64 L)).setCell ⟨Y, S, none⟩ (.int .i64 gT)) from (HE5.out.grown (grown_setCell _ _ _) (fun k hk => by cases hk; exact hXl.1)).grown (grown_setCell _ _ _) (fun k hk => by cases hk; exact hXl.2))
                go_wp2
                go_roundw
                case rel => exact ⟨k + 1, L, G2.set S gT, by omega, by go_num, HX7, HY7, HNX, HM7, HE7⟩
                case measure => (simp [intOf] <;> omega)
              · have HNX := hide (show MinT n xs F S (k + 1) v by have := HST.out; rwa [if_neg (by omega)] at this)
                by_cases hLe : L = v
                · subst hLe
                  obtain ⟨_, _, gS, e, _, _, _, wgS, hcg, hfg⟩ := HY5.out.get hlt
                  cases e
                  simp only [Nat.zero_add] at hcg hfg
                  obtain ⟨x, hx⟩ : ∃ x, IntKind.i64.wrap (gS + gT) = x := ⟨_, rfl⟩
                  have hx64 : I64 x := by rw [← hx]; exact ⟨(wrap_within .i64 _).1, (wrap_within .i64 _).2⟩
                  have HY7 := hide (show OwI ((w5.setCell ⟨Y, S, none⟩ (.int .i64 x)).drew) W.heap.size (some ⟨Y, 0, none⟩) N N (G2.set S x) from by
                    have h9 := HY5.out.store rfl hlt (x := x) hx64
                    rw [Nat.zero_add] at h9
                    exact h9.ext (Ext.refl _).drew)
                  have HX7 := hide (show OwI ((w5.setCell ⟨Y, S, none⟩ (.int .i64 x)).drew) W.heap.size (some ⟨X, 0, none⟩) N N (F.set S L) from (HX5.out.grown (grown_setCell _ _ _) (.inl (by simpa using hXY))).ext (Ext.refl _).drew)
                  have HM7 := hide (show Ints ((w5.setCell ⟨Y, S, none⟩ (.int .i64 x)).drew) (some ⟨b, off, none⟩) m mc (mems S) from (HM5.out.grown (grown_setCell _ _ _) (.inl HMX.out.2)).ext (Ext.refl _).drew)
                  have HE7 := hide (show Ext W ((w5.setCell ⟨Y, S, none⟩ (.int .i64 x)).drew) from (HE5.out.grown (grown_setCell _ _ _) (fun k hk => by cases hk; exact hXl.2)).drew)
                  go_wp2
                  go_region
                  clear hx
                  go_wp2
                  go_roundw
                  case rel => exact ⟨k + 1, L, G2.set S x, by omega, by go_num, HX7, HY7, HNX, HM7, HE7⟩
                  case measure => (simp [intOf] <;> omega)
                · have hLb : (L == v) = false := by simp; omega
                  go_wp2
                  go_roundw
                  case rel => exact ⟨k + 1, v, G2, by omega, by go_num, HX5, HY5, HNX, HM5, HE5⟩
                  case measure => (simp [intOf] <;> omega)
          · have hkm2 : k = m := by omega
            have HON := hide (show OptT n xs (F.set S v) (S + 1) from opt_step hn8 HOP.out hS1 hS2n (by rw [HML.out, ← hkm2]; exact HMN.out))
            have hki : ¬ (k : Int) < (m : Int) := by omega
            clear hkm2
            go_wp2
            go_roundw
            case rel => exact ⟨S + 1, by omega, by omega, by go_num, hide ⟨F.set S v, G2, HXr.out, HYr.out, HON.out⟩, HEr⟩
            case measure => (simp [intOf] <;> omega)
      · have hSe : S = N := by omega
        subst hSe
        have hSi : ¬ (S : Int) < (S : Int) := by omega
        go_wp2
        go_ret2
        exact ⟨_, _, S, S, F, rfl, HFX.out.ints, HOP.out, HE.out.trans HER.out⟩

end Go.Proofs.YtbaljgdepicigaaDoor
