/-
  The walk of the law on fixed brackets: who can win a bracket has one, and a king who beats half of the players can.
-/
import Derived.Deep.RegionHeld3
import Derived.Laws.ShiftsVar
import Derived.Deep.DeepCutAuto
import Derived.Test.YtbaljgdepicigaaDoorBase
import Derived.Test.YtbaljgdepicigaaDoorMgA
import Derived.Test.YtbaljgdepicigaaDoorLib
import Derived.Test.YtbaljgdepicigaaDoorAid
import Derived.Test.YtbaljgdepicigaaDoorStep
import Derived.Test.YtbaljgdepicigaaDoorGrid
import Derived.Test.YtbaljgdepicigaaDoorLibF
import Derived.Test.YtbaljgdepicigaaDoorMgB
import Derived.Test.YtbaljgdepicigaaDoorSeed
import Derived.Test.YtbaljgdepicigaaDoorTour
import Derived.Test.YtbaljgdepicigaaDoorTourB
import Derived.Test.YtbaljgdepicigaaDoorBrack
import Derived.Test.YtbaljgdepicigaaDoorBrackB
import Derived.Test.YtbaljgdepicigaaDoorDblB
import Derived.Test.YtbaljgdepicigaaDoorDblD
import Derived.Test.YtbaljgdepicigaaDoorPop
import Derived.Test.YtbaljgdepicigaaDoorSameA
import Derived.Test.YtbaljgdepicigaaDoorWin
import Derived.Test.YtbaljgdepicigaaDoorWinC
import Derived.Test.YtbaljgdepicigaaDoorWinD
import Derived.Test.YtbaljgdepicigaaDoorWinE
import Derived.Test.YtbaljgdepicigaaDoorSovA
import Derived.Test.YtbaljgdepicigaaDoorSovB
import Derived.Test.YtbaljgdepicigaaDoorRangeA
import Derived.Test.YtbaljgdepicigaaDoorFillD
import Derived.Test.YtbaljgdepicigaaDoorRangeB
import Derived.Test.YtbaljgdepicigaaDoorExtA
import Derived.Test.YtbaljgdepicigaaDoorExtB
import Derived.Test.YtbaljgdepicigaaDoorExtC
import Derived.Test.YtbaljgdepicigaaDoorExtF
import Derived.Test.YtbaljgdepicigaaDoorLstB
import Derived.Test.YtbaljgdepicigaaDoorExtG
import Derived.Test.YtbaljgdepicigaaDoorRoundA
import Derived.Test.YtbaljgdepicigaaDoorFixA
import Derived.Test.YtbaljgdepicigaaDoorCurA
import Derived.Test.YtbaljgdepicigaaDoorDrwA
import Derived.Test.YtbaljgdepicigaaDoorDrwB
import Derived.Test.YtbaljgdepicigaaDoorDrwF
namespace Go.Proofs.YtbaljgdepicigaaDoor
open Go.RowKit
set_option linter.unusedVariables false
set_option maxRecDepth 100000

-- words
def scoreOf (s : Int) (xs : List Int) (a : Int) : Int := if tourOk s xs ∧ 0 ≤ a ∧ a ≤ s - 1 then (pc (rowN xs a) : Int) else -1
def facF : Nat → Nat
  | 0 => 1
  | n + 1 => facF n * (n + 1)
theorem facF_small : ∀ j : Nat, j < 9 → 1 ≤ facF j ∧ facF j ≤ 40320 := by decide
def totF (m : Nat) (xs : List Int) (j : Nat) : Nat := if m ≤ 4 then cntSum xs (ordersL m) j else 0
theorem totF_zero (m : Nat) (xs : List Int) : totF m xs 0 = 0 := by unfold totF; split <;> rfl
theorem cntP_small {m : Nat} {xs : List Int} {a : Int} (h : m ≤ 4) : cntP xs a (ordersL m) ≤ 24 := by
  have h1 := orders_len m (by omega)
  have h2 := cntP_le (xs := xs) (a := a) (l := ordersL m)
  rw [h1] at h2
  split at h2 <;> (try split at h2) <;> (try split at h2) <;> (try split at h2) <;> omega
theorem totF_le (m : Nat) (xs : List Int) : ∀ j, totF m xs j ≤ 24 * j := by
  intro j
  unfold totF
  split
  · rename_i h
    induction j with
    | zero => exact Nat.le_refl _
    | succ j ih => have := cntP_small (xs := xs) (a := (j : Int)) h; simp only [cntSum]; omega
  · omega
theorem rounds_lg {m : Nat} (h : m = 1 ∨ m = 2 ∨ m = 4 ∨ m = 8) : roundsOf m = (lg (m : Int) : Int) := by
  rcases h with rfl | rfl | rfl | rfl <;> decide
-- impl.ScoreOf
theorem iScoreOf_any (s : Int) (A : Option Addr) (n c : Nat) (xs : List Int) (a : Int) (w : World) (h : Ints w A n c xs) :
    Calls Tryd.prog 16 #[.agg #[.int .i64 s, .slice A n c], .int .i64 a] w fun e w' => e = .returned (.int .i64 (scoreOf s xs a)) ∧ Ext w w' := by
  have H_h := hide h
  have HE0 := hide (Ext.one w (.cells #[.int .i64 s, .slice A n c] 26))
  have b0_0 : (w.alloc (.cells #[.int .i64 s, .slice A n c] 26)).cell? ⟨w.heap.size, 0, none⟩ = some (.int .i64 s) := by simp
  have b1_0 : (w.alloc (.cells #[.int .i64 s, .slice A n c] 26)).cell? ⟨w.heap.size, 1, none⟩ = some (.slice A n c) := by simp
  clear h
  by_cases hp1 : tourOk s xs
  · skip
    have HP1 := hide hp1
    have hs8 := tour_s8 hp1
    by_cases hp2 : 0 ≤ a ∧ a ≤ s - 1
    · skip
      have HP2 := hide hp2
      have HF := hide (show (scoreOf s xs a) = (pc (rowN xs a) : Int) from (by unfold scoreOf; rw [if_pos ⟨hp1, hp2⟩]))
      clear hp1 hp2
      go_enter Tryd.func16, Tryd.ntmps16
      go_wp2_with (first | (go_at_call 43; refine (iTourOk_any _ _ _ _ xs _ (H_h.out.ext HE0.out)).mono ?_; rw [decide_eq_true HP1.out]; rintro e w1 ⟨rfl, hE1⟩; have b0_1 := hE1.get b0_0; have b1_1 := hE1.get b1_0) | (go_at_call 47; refine (has_any _ _ _ _ _ _ ⟨by omega, by omega⟩).mono ?_; rw [decide_eq_true HP2.out]; rintro e w2 ⟨rfl, hE2⟩; have b0_2 := hE2.get b0_1; have b1_2 := hE2.get b1_1) | (go_at_call 59; refine (scoreI_any _ _ _ _ xs _ _ HP1.out (H_h.out.ext ((HE0.out.trans hE1).trans hE2)) HP2.out).mono ?_; rintro e w3 ⟨rfl, hE3⟩; have b0_3 := hE3.get b0_2; have b1_3 := hE3.get b1_2))
      go_ret
      exact ⟨ret_int HF.out.symm, (((HE0.out.trans hE1).trans hE2).trans hE3)⟩
    · have HP2 := hide hp2
      have HF := hide (show (scoreOf s xs a) = -1 from by
        unfold scoreOf
        rw [if_neg]
        intro hh; exact HP2.out (by first | exact hh.1 | exact hh.2.1 | exact hh.2.2.1 | exact hh.2.2 | exact hh.2.2.2 | exact hh.2.2.2.1 | exact hh | (have := hh; omega) | simp_all))
      clear hp1 hp2
      go_enter Tryd.func16, Tryd.ntmps16
      go_wp2_with (first | (go_at_call 43; refine (iTourOk_any _ _ _ _ xs _ (H_h.out.ext HE0.out)).mono ?_; rw [decide_eq_true HP1.out]; rintro e w1 ⟨rfl, hE1⟩; have b0_1 := hE1.get b0_0; have b1_1 := hE1.get b1_0) | (go_at_call 47; refine (has_any _ _ _ _ _ _ ⟨by omega, by omega⟩).mono ?_; rw [decide_eq_false HP2.out]; rintro e w2 ⟨rfl, hE2⟩; have b0_2 := hE2.get b0_1; have b1_2 := hE2.get b1_1))
      go_ret
      exact ⟨ret_int HF.out.symm, ((HE0.out.trans hE1).trans hE2)⟩
  · have HP1 := hide hp1
    have HF := hide (show (scoreOf s xs a) = -1 from by
      unfold scoreOf
      rw [if_neg]
      intro hh; exact HP1.out (by first | exact hh.1 | exact hh.2.1 | exact hh.2.2.1 | exact hh.2.2 | exact hh.2.2.2 | exact hh.2.2.2.1 | exact hh | (have := hh; omega) | simp_all))
    clear hp1
    go_enter Tryd.func16, Tryd.ntmps16
    go_wp2_with (first | (go_at_call 43; refine (iTourOk_any _ _ _ _ xs _ (H_h.out.ext HE0.out)).mono ?_; rw [decide_eq_false HP1.out]; rintro e w1 ⟨rfl, hE1⟩; have b0_1 := hE1.get b0_0; have b1_1 := hE1.get b1_0))
    go_ret
    exact ⟨ret_int HF.out.symm, (HE0.out.trans hE1)⟩
-- laws.FnFixing
set_option maxHeartbeats 8000000 in
theorem law_Fixing (A : Option Addr) (n c : Nat) (bs : List Int) (w : World) (h : Bts w A n c bs) (hT : Tab w) :
    Calls Tryd.prog 3 #[.slice A n c] w fun e w' => e = .returned (.bool true) ∧ Ext w w' := by
  have HB := hide h
  have HTAB := hide hT
  have hle := h.rd.le
  have hmx := h.rd.max
  clear h hT
  by_cases hn : (1048576 : Int) < (n : Int)
  · go_enter Tryd.func3, Tryd.ntmps3
    go_wp2
    go_ret
    exact ⟨rfl, Ext.refl _⟩
  · have HX1 := hide (Ext.one w (.cells #[.int .i64 1, .int .i64 2, .int .i64 4, .int .i64 4, .int .i64 4] 3))
    go_enter Tryd.func3, Tryd.ntmps3
    go_wp2_with fail
    refine (makeNum_any A n c bs 0 _ (HB.out.ext HX1.out) (by omega)).mono ?_
    rintro e w1 ⟨X, rfl, hX, hE1⟩
    have HE1 := hide (HX1.out.trans hE1)
    obtain ⟨m, hmm, hcm⟩ : ∃ m : Nat, (m = 1 ∨ m = 2 ∨ m = 4) ∧ (w.alloc (.cells #[.int .i64 1, .int .i64 2, .int .i64 4, .int .i64 4, .int .i64 4] 3)).cell? ⟨w.heap.size, X % 5, none⟩ = some (.int .i64 (m : Int)) := by
      have h5 : X % 5 < 5 := Nat.mod_lt _ (by omega)
      rcases (by omega : X % 5 = 0 ∨ X % 5 = 1 ∨ X % 5 = 2 ∨ X % 5 = 3 ∨ X % 5 = 4) with e | e | e | e | e <;> rw [e]
      · exact ⟨1, .inl rfl, by simp⟩
      · exact ⟨2, .inr (.inl rfl), by simp⟩
      · exact ⟨4, .inr (.inr rfl), by simp⟩
      · exact ⟨4, .inr (.inr rfl), by simp⟩
      · exact ⟨4, .inr (.inr rfl), by simp⟩
    have hcm := hE1.get hcm
    obtain ⟨r, hr⟩ : ∃ r, X % 5 = r := ⟨_, rfl⟩
    have hr5 : r < 5 := by rw [← hr]; exact Nat.mod_lt _ (by omega)
    have hri : (X : Int) % 5 = (r : Int) := by omega
    rw [hr] at hcm
    clear hr
    go_wp2_with fail
    refine (makeNum_any A n c bs 2 w1 (HB.out.ext HE1.out) (by omega)).mono ?_
    rintro e w2 ⟨X2, rfl, hX2, hE2⟩
    have HE2 := hide (HE1.out.trans hE2)
    clear hE1 hE2 hcm hr5 hri
    go_upto_if 28 with fail
    go_cut [3] from 16 (fun s3 wx => ∃ q : Nat, (q = 1 ∨ q = 2 ∨ q = 4 ∨ q = 8) ∧ s3 = .int .i64 (q : Int) ∧ w2 = wx)
    case first => as_aux_lemma =>
      by_cases h16 : X2 % 16 = 0
      · have h16i : (X2 : Int) % 16 = 0 := by omega
        go_wp2_with fail
        go_meet
        case rel => exact ⟨8, by omega, rfl, rfl⟩
      · have h16i : ¬ (X2 : Int) % 16 = 0 := by omega
        go_wp2_with fail
        go_meet
        case rel => exact ⟨m, by omega, rfl, rfl⟩
    case rest =>
      clear hmm
      obtain ⟨m, hm, rfl, rfl⟩ := hcut
      go_wp2_with fail
      have hm8 : m ≤ 8 := by omega
      have hm1 : 1 ≤ m := by omega
      refine (makeOf_any A n c bs 4 m w2 (HB.out.ext HE2.out) (by omega) hm1 hm8).mono ?_
      rintro e w3 ⟨xs, B, d, ht, rfl, hoB, hE3⟩
      obtain ⟨w4, hw4⟩ : ∃ w4 : World, w4 = w3.alloc (.cells #[.int .i64 (m : Int), .slice B m d] 26) := ⟨_, rfl⟩
      have hE4 : Ext w3 w4 := by rw [hw4]; exact Ext.one _ _
      have C0 := hide (show w4.cell? ⟨w3.heap.size, 0, none⟩ = some (.int .i64 (m : Int)) by rw [hw4]; simp)
      have C1 := hide (show w4.cell? ⟨w3.heap.size, 1, none⟩ = some (.slice B m d) by rw [hw4]; simp)
      have HI := hide (hoB.ints.ext hE4)
      have HE := hide (HE2.out.trans (hE3.trans hE4))
      have hf : fixedOk (m : Int) xs := ⟨ht, by unfold brkSize; omega⟩
      have HF := hide hf
      have HTB := hide (HTAB.out.ext HE.out)
      obtain ⟨V, hV⟩ : ∃ V : Nat, win xs (lg (m : Int)) (fullS (m : Int)) = V := ⟨_, rfl⟩
      obtain ⟨hV0, hV1⟩ := some_wins hf
      rw [hV] at hV0 hV1
      have HPV := hide (show possW (m : Int) xs = (V : Int) by unfold possW; rw [if_pos hf, hV])
      have HOK := hide (fun (a : Nat) (ha : a < m) => show FixOk m xs a V by have := fix_ok hf ha; rwa [hV] at this)
      have HSUM := hide (fix_sum (xs := xs) hm1)
      have HSOV := hide (show 0 ≤ sovOf (m : Int) xs → (V : Int) = ((2 ^ (sovOf (m : Int) xs).toNat : Nat) : Int) from fun h => by rw [← HPV.out]; exact fix_sov hf h)
      have HSV := hide (show sovOf (m : Int) xs ≤ 8 ∧ -1 ≤ sovOf (m : Int) xs from by
        unfold sovOf
        rw [if_pos ht, Int.toNat_natCast]
        have := idxF_bound (sovP (m : Int) xs) (upto m)
        rw [upto_len] at this
        omega)
      have hfw := full_wrap (s := (m : Int)) (by omega) (by omega)
      have HFW := hide hfw
      obtain ⟨K, hK⟩ : ∃ K, K = w3.heap.size := ⟨_, rfl⟩
      rw [← hK] at C0 C1
      have C0 := hide C0.out
      have C1 := hide C1.out
      have HK := hide hK
      have HW4 := hide hw4
      clear hoB hE3 hE4 ht hw4 hK hf hfw hV
      -- what the calls answer
      have CP := hide (fun w' (hE : Ext w4 w') => show Calls Tryd.prog 7 #[.agg #[.int .i64 (m : Int), .slice B m d]] w' fun e w'' => e = .returned (.int .i64 (V : Int)) ∧ Ext w' w'' from by
        have := iPossible_any (m : Int) B m d xs w' (HI.out.ext hE); rwa [HPV.out] at this)
      have CW := hide (fun w' (hE : Ext w4 w') => show Calls Tryd.prog 8 #[.agg #[.int .i64 (m : Int), .slice B m d], .int .i64 (fullS (m : Int) : Int)] w' fun e w'' => e = .returned (.int .i64 (V : Int)) ∧ Ext w' w'' from by
        have := iWinnersOf_any (m : Int) B m d xs (fullS (m : Int) : Int) w' (HI.out.ext hE); rwa [← possW_winners HF.out, HPV.out] at this)
      have CV := hide (fun w' (hE : Ext w4 w') => iSovereign_any (m : Int) B m d xs w' (HI.out.ext hE))
      go_wp2_with fail
      rw [← HK.out, ← HW4.out]
      refine (CP.out w4 (Ext.refl _)).mono ?_
      rintro e w5 ⟨rfl, hE5⟩
      have HX5 := hide hE5
      have k0 := hide (hE5.get C0.out)
      have k1 := hide (hE5.get C1.out)
      clear hE5
      go_wp2
      go_loopw [7, 8] (fun fa i wr => ∃ j : Nat, 2 ≤ j ∧ j ≤ m + 1 ∧ i = .int .i64 (j : Int) ∧ fa = .int .i64 (facF (j - 1) : Int) ∧ w5 = wr) (fun _ i _ => m + 1 - (intOf i).toNat)
      case atStart => exact ⟨2, Nat.le_refl _, by omega, rfl, rfl, rfl⟩
      case round =>
        obtain ⟨j, hj2, hj, rfl, rfl, rfl⟩ := hrel
        by_cases hlt : j ≤ m
        · have hji : (j : Int) ≤ (m : Int) := by omega
          have hfs := facF_small (j - 1) (by omega)
          have hfn : facF j = facF (j - 1) * j := by
            obtain ⟨q, rfl⟩ : ∃ q, j = q + 1 := ⟨j - 1, by omega⟩
            rfl
          have HMUL := hide (show wrap64 ((facF (j - 1) : Int) * (j : Int)) = (facF j : Int) by
            have := facF_small j (by omega)
            rw [← Int.natCast_mul, ← hfn]; unfold wrap64; omega)
          clear hfn
          go_wp2
          go_roundw
          case rel => exact ⟨j + 1, by omega, by omega, by go_num, by rw [Nat.add_sub_cancel]; exact congrArg (Value.int .i64) HMUL.out, trivial⟩
          case measure => (simp [intOf] <;> omega)
        · obtain ⟨w5, rfl⟩ : ∃ w5', w5' = w5 := ⟨_, rfl⟩
          have hjm : j - 1 = m := by omega
          rw [hjm]
          have hji : ¬ (j : Int) ≤ (m : Int) := by omega
          clear hjm hlt
          obtain ⟨fm, hfm⟩ : ∃ fm, facF m = fm := ⟨_, rfl⟩
          have HFM := hide hfm
          rw [hfm]
          clear hfm
          go_wp2
          clear hj hj2 hji
          obtain ⟨hpw, hP⟩ : decide ((V : Int) ≤ 0) = false ∧ decide (wrap64 (2 ^ m) ≤ (V : Int)) = false := by
            have h1 := (wrap_pow hm8).1
            have h2 : ((2 ^ m : Nat) : Int) = (2 : Int) ^ m := by simp
            rw [h1, decide_eq_false_iff_not, decide_eq_false_iff_not]
            omega
          have hfw : wrap64 (wrap64 (2 ^ m) - 1) = (fullS (m : Int) : Int) := by have := HFW.out; rwa [Int.toNat_natCast] at this
          have HHP := hide hP
          have hvz : ¬ V = 0 := by omega
          have hvi : ¬ (V : Int) ≤ 0 := by omega
          have d0 := after_cell k0.out
          have d1 := after_cell k1.out
          have CWA := hide (fun (e : After w5) => CW.out e.val (HX5.out.trans e.property))
          refine wp_region_ext (by as_aux_lemma => kernel_rfl) (by as_aux_lemma => kernel_rfl) ?_
          repeat (go_big_quiet_step ((go_at_call 8; (try rw [hfw]); with_reducible exact after_call (CWA.out _))))
          refine wpQuiet_nil ?_
          rintro w6 ⟨⟨w6, hE6⟩, rfl⟩
          have HX6 := hide (HX5.out.trans hE6)
          have k0 := hide (hE6.get k0.out)
          have k1 := hide (hE6.get k1.out)
          clear hE6 d0 d1 CWA
          go_wp2
          clear hP hpw hvz hvi
          have HFW2 := hide hfw
          clear hfw
          go_loopw [6, 9] (fun tt i wr => ∃ j : Nat, j ≤ m ∧ i = .int .i64 (j : Int) ∧ tt = .int .i64 (totF m xs j : Int) ∧ Ext w6 wr) (fun _ i _ => m - (intOf i).toNat)
          case atStart => exact ⟨0, Nat.zero_le _, rfl, by rw [totF_zero]; rfl, Ext.refl _⟩
          case round =>
            obtain ⟨j, hj, rfl, rfl, hE⟩ := hrel
            have HR7 := hide hE
            have HX7 := hide (HX6.out.trans hE)
            clear hE k0 k1
            have k0 := HX7.out.get C0.out
            have k1 := HX7.out.get C1.out
            by_cases hlt : j < m
            · have hji : (j : Int) < (m : Int) := by omega
              have HFO := hide (HOK.out j hlt)
              have htot := totF_le m xs j
              have hmw : I64 (m : Int) := ⟨by omega, by omega⟩
              have hjw : I64 (j : Int) := ⟨by omega, by omega⟩
              have HBIT := hide (show (bits BinOp.and IntKind.i64 ((V : Int) / 2 ^ j) 1 == 1) = decide (canWin (m : Int) xs (j : Int)) from by
                have h256 : (2 : Nat) ^ m ≤ 2 ^ 8 := Nat.pow_le_pow_right (by omega) hm8
                rw [and_bit2 (m := (V : Int)) (by omega) (by omega) j, bitAt_nat, HFO.out.bit]
                by_cases hcw : canWin (m : Int) xs (j : Int) <;> simp [hcw])
              -- what the calls answer about this player
              have CCAN := hide (fun w' (hE : Ext w4 w') => iCanWin_any (m : Int) B m d xs (j : Int) w' hmw hjw (HI.out.ext hE))
              have CHALF := hide (fun w' (hE : Ext w4 w') => show Calls Tryd.prog 11 #[.agg #[.int .i64 (m : Int), .slice B m d], .int .i64 (j : Int), .int .i64 (fullS (m : Int) : Int)] w' fun e w'' => e = .returned (.bool (decide (canWin (m : Int) xs (j : Int)))) ∧ Ext w' w'' from by
                have := iHalfFor_any (m : Int) B m d xs (j : Int) (fullS (m : Int) : Int) w' hmw hjw (HI.out.ext hE)
                rwa [show decide (halfFor (m : Int) xs (j : Int) (fullS (m : Int) : Int)) = decide (canWin (m : Int) xs (j : Int)) from decide_eq_decide.2 HFO.out.hal] at this)
              have CSTR := hide (fun w' (hE : Ext w4 w') => iStrong_any (m : Int) B m d xs (j : Int) w' (HI.out.ext hE))
              have CSCO := hide (fun w' (hE : Ext w4 w') => show Calls Tryd.prog 16 #[.agg #[.int .i64 (m : Int), .slice B m d], .int .i64 (j : Int)] w' fun e w'' => e = .returned (.int .i64 (pc (rowN xs (j : Int)) : Int)) ∧ Ext w' w'' from by
                have := iScoreOf_any (m : Int) B m d xs (j : Int) w' (HI.out.ext hE)
                rwa [show scoreOf (m : Int) xs (j : Int) = (pc (rowN xs (j : Int)) : Int) from if_pos ⟨HF.out.1, by omega, by omega⟩] at this)
              have CCNT := hide (fun (h4 : m ≤ 4) w' (hE : Ext w4 w') => show Calls Tryd.prog 18 #[.agg #[.int .i64 (m : Int), .slice B m d], .int .i64 (j : Int)] w' fun e w'' => e = .returned (.int .i64 (cntP xs (j : Int) (ordersL m) : Int)) ∧ Ext w' w'' from by
                have := iCountFor_any (m : Int) B m d xs (j : Int) w' (HI.out.ext hE)
                rwa [(HFO.out.cnt h4).1] at this)
              have HCNT := hide (fun h4 => (HFO.out.cnt h4).2)
              have HTOT := hide (fun (h4 : m ≤ 4) => show totF m xs (j + 1) = totF m xs j + cntP xs (j : Int) (ordersL m) from by unfold totF; rw [if_pos h4, if_pos h4]; rfl)
              have HT8 := hide (fun (h4 : ¬ m ≤ 4) => show totF m xs (j + 1) = totF m xs j from by unfold totF; rw [if_neg h4, if_neg h4])
              have HCL := hide (fun (h4 : m ≤ 4) => show cntP xs (j : Int) (ordersL m) ≤ 24 from cntP_small h4)
              clear hmw hjw
              go_wp2_with fail
              refine (iBracketFor_any (m : Int) B m d xs (j : Int) wr (HI.out.ext HX7.out)).mono ?_
              rintro e w8 ⟨Ab, cb, rfl, hob, hE8⟩
              rw [HFO.out.okb]
              by_cases hc : canWin (m : Int) xs (j : Int)
              · rw [decide_eq_true hc] at CCAN CHALF HBIT ⊢
                obtain ⟨br, hbr⟩ : ∃ br, brkV (m : Int) xs (j : Int) = br := ⟨_, rfl⟩
                have hbl := HFO.out.len hc
                have hbk := HFO.out.brk hc
                rw [hbr] at hob hbl hbk ⊢
                rw [hbl] at hob ⊢
                have HOB := hide hob.ints
                have HR8 := hide (HR7.out.trans hE8)
                have HX8 := hide (HX7.out.trans hE8)
                obtain ⟨sb, hsb⟩ : ∃ sb, decide (strongKing (m : Int) xs (j : Int)) = sb := ⟨_, rfl⟩
                rw [hsb] at CSTR
                have hsco := HFO.out.sco hc
                obtain ⟨p, hp⟩ : ∃ p, pc (rowN xs (j : Int)) = p := ⟨_, rfl⟩
                rw [hp] at CSCO hsco
                obtain ⟨q, hq⟩ : ∃ q, lg (m : Int) = q := ⟨_, rfl⟩
                rw [hq] at hsco
                have CBOK := hide (fun w' (hE : Ext w8 w') => iBracketOk_any (m : Int) B m d xs Ab m cb br w' (HI.out.ext (HX8.out.trans hE)) (HOB.out.ext hE))
                rw [decide_eq_true hbk.1] at CBOK
                have CWIN := hide (fun w' (hE : Ext w8 w') => iWinnerOf_any (m : Int) B m d xs Ab m cb br w' (HI.out.ext (HX8.out.trans hE)) (HOB.out.ext hE))
                rw [hbk.2.1] at CWIN
                have CSAME := hide (fun w' (hE : Ext w8 w') => iSame_any Ab m cb br Ab m cb br w' (HOB.out.ext hE) (HOB.out.ext hE))
                rw [decide_eq_true hbk.2.2] at CSAME
                have CRND := hide (fun w' (hE : Ext w8 w') => show Calls Tryd.prog 17 #[.slice Ab m cb] w' fun e w'' => e = .returned (.int .i64 (q : Int)) ∧ Ext w' w'' from by
                  have := iRounds_any Ab m cb w' (HTB.out.ext (HX8.out.trans hE))
                  rw [rounds_lg hm, hq] at this
                  exact this.mono fun e w'' ⟨h1, h2⟩ => ⟨h1, by subst h2; exact Ext.refl _⟩)
                have CBOK := hide CBOK.out
                have CWIN := hide CWIN.out
                have CSAME := hide CSAME.out
                have CSTR := hide CSTR.out
                have CSCO := hide CSCO.out
                have CCAN := hide CCAN.out
                have CHALF := hide CHALF.out
                have hbit := HBIT.out
                have HSCO := hide hsco
                clear hbr hbl hbk hob hE8 hsb hsco hp hq k0 k1
                have k0 := HX8.out.get C0.out
                have k1 := HX8.out.get C1.out
                go_wp2_with fail
                have CCAN := hide (fun (e : After w8) => CCAN.out e.val (HX8.out.trans e.property))
                have CHALF := hide (fun (e : After w8) => CHALF.out e.val (HX8.out.trans e.property))
                have CSTR := hide (fun (e : After w8) => CSTR.out e.val (HX8.out.trans e.property))
                have CSCO := hide (fun (e : After w8) => CSCO.out e.val (HX8.out.trans e.property))
                have CBOK := hide (fun (e : After w8) => CBOK.out e.val e.property)
                have CWIN := hide (fun (e : After w8) => CWIN.out e.val e.property)
                have CSAME := hide (fun (e : After w8) => CSAME.out e.val e.property)
                have CRND := hide (fun (e : After w8) => CRND.out e.val e.property)
                have d0 := after_cell k0
                have d1 := after_cell k1
                have hok : decide (canWin (m : Int) xs (j : Int)) = true := decide_eq_true hc
                go_cut [145] (fun s145 wx => s145 = .bool false ∧ Ext w8 wx)
                case first => as_aux_lemma =>
                  rcases (by omega : m = 1 ∨ 1 < m) with h1 | hmn
                  · have hmi : ¬ (1 : Int) < (m : Int) := by omega
                    have hmn : ¬ 1 < m := by omega
                    have H1 := hide h1
                    clear h1
                    cases sb with
                    | true =>
                      refine wp_region_ext (by as_aux_lemma => kernel_rfl) (by as_aux_lemma => kernel_rfl) ?_
                      repeat (go_big_quiet_step ((first | (go_at_call 10; with_reducible exact after_call (CCAN.out _)) | (go_at_call 11; (try rw [HFW2.out]); with_reducible exact after_call (CHALF.out _)) | (go_at_call 12; with_reducible exact after_call (CBOK.out _)) | (go_at_call 13; with_reducible exact after_call (CWIN.out _)) | (go_at_call 14; with_reducible exact after_call (CSAME.out _)) | (go_at_call 15; with_reducible exact after_call (CSTR.out _)) | (go_at_call 16; with_reducible exact after_call (CSCO.out _)) | (go_at_call 17; with_reducible exact after_call (CRND.out _)))))
                      refine wpQuiet_nil ?_
                      rintro w9 ⟨⟨w9, hE9⟩, rfl⟩
                      go_wp2
                      go_meet
                      case rel => exact ⟨rfl, hE9⟩
                    | false =>
                      refine wp_region_ext (by as_aux_lemma => kernel_rfl) (by as_aux_lemma => kernel_rfl) ?_
                      repeat (go_big_quiet_step ((first | (go_at_call 10; with_reducible exact after_call (CCAN.out _)) | (go_at_call 11; (try rw [HFW2.out]); with_reducible exact after_call (CHALF.out _)) | (go_at_call 12; with_reducible exact after_call (CBOK.out _)) | (go_at_call 13; with_reducible exact after_call (CWIN.out _)) | (go_at_call 14; with_reducible exact after_call (CSAME.out _)) | (go_at_call 15; with_reducible exact after_call (CSTR.out _)) | (go_at_call 16; with_reducible exact after_call (CSCO.out _)) | (go_at_call 17; with_reducible exact after_call (CRND.out _)))))
                      refine wpQuiet_nil ?_
                      rintro w9 ⟨⟨w9, hE9⟩, rfl⟩
                      go_wp2
                      go_meet
                      case rel => exact ⟨rfl, hE9⟩
                  · have hmi : (1 : Int) < (m : Int) := by omega
                    have hsc : ¬ (p : Int) < (q : Int) := by have := HSCO.out; omega
                    have hscn : ¬ p < q := by have := HSCO.out; omega
                    cases sb with
                    | true =>
                      refine wp_region_ext (by as_aux_lemma => kernel_rfl) (by as_aux_lemma => kernel_rfl) ?_
                      repeat (go_big_quiet_step ((first | (go_at_call 10; with_reducible exact after_call (CCAN.out _)) | (go_at_call 11; (try rw [HFW2.out]); with_reducible exact after_call (CHALF.out _)) | (go_at_call 12; with_reducible exact after_call (CBOK.out _)) | (go_at_call 13; with_reducible exact after_call (CWIN.out _)) | (go_at_call 14; with_reducible exact after_call (CSAME.out _)) | (go_at_call 15; with_reducible exact after_call (CSTR.out _)) | (go_at_call 16; with_reducible exact after_call (CSCO.out _)) | (go_at_call 17; with_reducible exact after_call (CRND.out _)))))
                      refine wpQuiet_nil ?_
                      rintro w9 ⟨⟨w9, hE9⟩, rfl⟩
                      go_wp2
                      go_meet
                      case rel => exact ⟨rfl, hE9⟩
                    | false =>
                      refine wp_region_ext (by as_aux_lemma => kernel_rfl) (by as_aux_lemma => kernel_rfl) ?_
                      repeat (go_big_quiet_step ((first | (go_at_call 10; with_reducible exact after_call (CCAN.out _)) | (go_at_call 11; (try rw [HFW2.out]); with_reducible exact after_call (CHALF.out _)) | (go_at_call 12; with_reducible exact after_call (CBOK.out _)) | (go_at_call 13; with_reducible exact after_call (CWIN.out _)) | (go_at_call 14; with_reducible exact after_call (CSAME.out _)) | (go_at_call 15; with_reducible exact after_call (CSTR.out _)) | (go_at_call 16; with_reducible exact after_call (CSCO.out _)) | (go_at_call 17; with_reducible exact after_call (CRND.out _)))))
                      refine wpQuiet_nil ?_
                      rintro w9 ⟨⟨w9, hE9⟩, rfl⟩
                      go_wp2
                      go_meet
                      case rel => exact ⟨rfl, hE9⟩
                case rest =>
                  obtain ⟨rfl, hE9⟩ := hcut
                  obtain ⟨w9, rfl⟩ : ∃ w9, w9 = wc := ⟨_, rfl⟩
                  have HR9 := hide (HR8.out.trans hE9)
                  have HX9 := hide (HX8.out.trans hE9)
                  clear hE9 d0 d1 k0 k1
                  have k0 := HX9.out.get C0.out
                  have k1 := HX9.out.get C1.out
                  rcases (by omega : m = 1 ∨ (1 < m ∧ m ≤ 4) ∨ m = 8) with h1 | h1 | h1
                  · have hmi : ¬ (1 : Int) < (m : Int) := by omega
                    have hmn : ¬ 1 < m := by omega
                    have h4 : m ≤ 4 := by omega
                    have hh4 : (m : Int) ≤ 4 := by omega
                    have H1 := hide h1
                    clear h1
                    have hct := HTOT.out h4
                    have hcl := HCL.out h4
                    have hcn := HCNT.out h4
                    have CC := CCNT.out h4 w9 HX9.out
                    generalize cntP xs (j : Int) (ordersL m) = cc at hct hcl hcn CC
                    have HCT := hide hct
                    have CC := hide CC
                    have hcp : 0 < cc := hcn.1.2 hc
                    have hcpi : (0 : Int) < (cc : Int) := by omega
                    clear hct hcn
                    go_wp2_with fail
                    refine CC.out.mono ?_
                    rintro e w10 ⟨rfl, hE10⟩
                    have HR10 := hide (HR9.out.trans hE10)
                    clear hE10 k0 k1
                    go_wp2
                    go_roundw
                    case rel => exact ⟨j + 1, by omega, by go_num, by rw [HCT.out]; go_num, HR10.out⟩
                    case measure => (simp [intOf] <;> omega)
                  · obtain ⟨hmn, h4⟩ := h1
                    have hmi : (1 : Int) < (m : Int) := by omega
                    have hh4 : (m : Int) ≤ 4 := by omega
                    have hct := HTOT.out h4
                    have hcl := HCL.out h4
                    have hcn := HCNT.out h4
                    have CC := CCNT.out h4 w9 HX9.out
                    generalize cntP xs (j : Int) (ordersL m) = cc at hct hcl hcn CC
                    have HCT := hide hct
                    have CC := hide CC
                    have hcp : 0 < cc := hcn.1.2 hc
                    have hcpi : (0 : Int) < (cc : Int) := by omega
                    have hm0 : ¬ m = 0 := by omega
                    have hcm : cc % m = 0 := hcn.2 hmn
                    have hcmi : (cc : Int) % (m : Int) = 0 := by rw [← Int.natCast_emod, hcm]; rfl
                    have HMH := hide (show (m : Int) / 2 + (m : Int) / 2 = (m : Int) by omega)
                    clear hcm
                    clear hct hcn
                    go_wp2_with fail
                    refine CC.out.mono ?_
                    rintro e w10 ⟨rfl, hE10⟩
                    have HR10 := hide (HR9.out.trans hE10)
                    clear hE10 k0 k1
                    have hmh := HMH.out
                    go_wp2
                    clear hmh
                    go_roundw
                    case rel => exact ⟨j + 1, by omega, by go_num, by rw [HCT.out]; go_num, HR10.out⟩
                    case measure => (simp [intOf] <;> omega)
                  · have hmi : (1 : Int) < (m : Int) := by omega
                    have hmn : 1 < m := by omega
                    have h4 : ¬ m ≤ 4 := by omega
                    have hh4 : ¬ (m : Int) ≤ 4 := by omega
                    have H1 := hide h1
                    clear h1
                    have HT := hide (HT8.out h4)
                    go_wp2
                    go_roundw
                    case rel => exact ⟨j + 1, by omega, by go_num, by rw [HT.out], HR9.out⟩
                    case measure => (simp [intOf] <;> omega)
              · have hcs : ¬ strongKing (m : Int) xs (j : Int) := fun hh => hc (HFO.out.str hh)
                rw [decide_eq_false hc] at CCAN CHALF HBIT ⊢
                rw [decide_eq_false hcs] at CSTR
                have HR8 := hide (HR7.out.trans hE8)
                have HX8 := hide (HX7.out.trans hE8)
                have hbit := HBIT.out
                clear hob hE8 hcs k0 k1
                have k0 := HX8.out.get C0.out
                have k1 := HX8.out.get C1.out
                go_wp2_with fail
                have CCAN := hide (fun (e : After w8) => CCAN.out e.val (HX8.out.trans e.property))
                have CHALF := hide (fun (e : After w8) => CHALF.out e.val (HX8.out.trans e.property))
                have CSTR := hide (fun (e : After w8) => CSTR.out e.val (HX8.out.trans e.property))
                have d0 := after_cell k0
                have d1 := after_cell k1
                have hok : decide (canWin (m : Int) xs (j : Int)) = false := decide_eq_false hc
                go_cut [145] (fun s145 wx => s145 = .bool false ∧ Ext w8 wx)
                case first => as_aux_lemma =>
                  rcases (by omega : m = 1 ∨ 1 < m) with h1 | hmn
                  · have hmi : ¬ (1 : Int) < (m : Int) := by omega
                    have hmn : ¬ 1 < m := by omega
                    have H1 := hide h1
                    clear h1
                    refine wp_region_ext (by as_aux_lemma => kernel_rfl) (by as_aux_lemma => kernel_rfl) ?_
                    repeat (go_big_quiet_step ((first | (go_at_call 10; with_reducible exact after_call (CCAN.out _)) | (go_at_call 11; (try rw [HFW2.out]); with_reducible exact after_call (CHALF.out _)) | (go_at_call 15; with_reducible exact after_call (CSTR.out _)))))
                    refine wpQuiet_nil ?_
                    rintro w9 ⟨⟨w9, hE9⟩, rfl⟩
                    go_wp2
                    go_meet
                    case rel => exact ⟨rfl, hE9⟩
                  · have hmi : (1 : Int) < (m : Int) := by omega
                    refine wp_region_ext (by as_aux_lemma => kernel_rfl) (by as_aux_lemma => kernel_rfl) ?_
                    repeat (go_big_quiet_step ((first | (go_at_call 10; with_reducible exact after_call (CCAN.out _)) | (go_at_call 11; (try rw [HFW2.out]); with_reducible exact after_call (CHALF.out _)) | (go_at_call 15; with_reducible exact after_call (CSTR.out _)))))
                    refine wpQuiet_nil ?_
                    rintro w9 ⟨⟨w9, hE9⟩, rfl⟩
                    go_wp2
                    go_meet
                    case rel => exact ⟨rfl, hE9⟩
                case rest =>
                  obtain ⟨rfl, hE9⟩ := hcut
                  obtain ⟨w9, rfl⟩ : ∃ w9, w9 = wc := ⟨_, rfl⟩
                  have HR9 := hide (HR8.out.trans hE9)
                  have HX9 := hide (HX8.out.trans hE9)
                  clear hE9 d0 d1 k0 k1
                  have k0 := HX9.out.get C0.out
                  have k1 := HX9.out.get C1.out
                  rcases (by omega : m = 1 ∨ (1 < m ∧ m ≤ 4) ∨ m = 8) with h1 | h1 | h1
                  · have hmi : ¬ (1 : Int) < (m : Int) := by omega
                    have hmn : ¬ 1 < m := by omega
                    have h4 : m ≤ 4 := by omega
                    have hh4 : (m : Int) ≤ 4 := by omega
                    have H1 := hide h1
                    clear h1
                    have hct := HTOT.out h4
                    have hcl := HCL.out h4
                    have hcn := HCNT.out h4
                    have CC := CCNT.out h4 w9 HX9.out
                    generalize cntP xs (j : Int) (ordersL m) = cc at hct hcl hcn CC
                    have HCT := hide hct
                    have CC := hide CC
                    have hcz : cc = 0 := by rcases Nat.eq_zero_or_pos cc with e | e; exact e; exact absurd (hcn.1.1 e) hc
                    have hcpi : ¬ (0 : Int) < (cc : Int) := by omega
                    have hcp : ¬ 0 < cc := by omega
                    clear hcz
                    clear hct hcn
                    go_wp2_with fail
                    refine CC.out.mono ?_
                    rintro e w10 ⟨rfl, hE10⟩
                    have HR10 := hide (HR9.out.trans hE10)
                    clear hE10 k0 k1
                    go_wp2
                    go_roundw
                    case rel => exact ⟨j + 1, by omega, by go_num, by rw [HCT.out]; go_num, HR10.out⟩
                    case measure => (simp [intOf] <;> omega)
                  · obtain ⟨hmn, h4⟩ := h1
                    have hmi : (1 : Int) < (m : Int) := by omega
                    have hh4 : (m : Int) ≤ 4 := by omega
                    have hct := HTOT.out h4
                    have hcl := HCL.out h4
                    have hcn := HCNT.out h4
                    have CC := CCNT.out h4 w9 HX9.out
                    generalize cntP xs (j : Int) (ordersL m) = cc at hct hcl hcn CC
                    have HCT := hide hct
                    have CC := hide CC
                    have hcz : cc = 0 := by rcases Nat.eq_zero_or_pos cc with e | e; exact e; exact absurd (hcn.1.1 e) hc
                    have hcpi : ¬ (0 : Int) < (cc : Int) := by omega
                    have hcp : ¬ 0 < cc := by omega
                    clear hcz
                    have hm0 : ¬ m = 0 := by omega
                    have hcm : cc % m = 0 := hcn.2 hmn
                    have hcmi : (cc : Int) % (m : Int) = 0 := by rw [← Int.natCast_emod, hcm]; rfl
                    have HMH := hide (show (m : Int) / 2 + (m : Int) / 2 = (m : Int) by omega)
                    clear hcm
                    clear hct hcn
                    go_wp2_with fail
                    refine CC.out.mono ?_
                    rintro e w10 ⟨rfl, hE10⟩
                    have HR10 := hide (HR9.out.trans hE10)
                    clear hE10 k0 k1
                    have hmh := HMH.out
                    go_wp2
                    clear hmh
                    go_roundw
                    case rel => exact ⟨j + 1, by omega, by go_num, by rw [HCT.out]; go_num, HR10.out⟩
                    case measure => (simp [intOf] <;> omega)
                  · have hmi : (1 : Int) < (m : Int) := by omega
                    have hmn : 1 < m := by omega
                    have h4 : ¬ m ≤ 4 := by omega
                    have hh4 : ¬ (m : Int) ≤ 4 := by omega
                    have H1 := hide h1
                    clear h1
                    have HT := hide (HT8.out h4)
                    go_wp2
                    go_roundw
                    case rel => exact ⟨j + 1, by omega, by go_num, by rw [HT.out], HR9.out⟩
                    case measure => (simp [intOf] <;> omega)
            · have hjm : j = m := by omega
              rw [hjm]
              clear hjm hlt hj
              obtain ⟨w7, rfl⟩ : ∃ w7 : World, w7 = wr := ⟨_, rfl⟩
              have HTm := hide (fun (h4 : m ≤ 4) => show totF m xs m = fm from by
                unfold totF
                rw [if_pos h4, HSUM.out, orders_len m (by omega), ← HFM.out]
                rcases hm with rfl | rfl | rfl | rfl
                · rfl
                · rfl
                · rfl
                · omega)
              obtain ⟨sv, hsv⟩ : ∃ sv, sovOf (m : Int) xs = sv := ⟨_, rfl⟩
              rw [hsv] at HSOV HSV CV
              have CV := hide CV.out
              have HSOV := hide HSOV.out
              have hsv9 := HSV.out
              have HSX := hide (show decide (sameBracket [0, 1, 2, 3] [3, 2, 0, 1]) = true from by decide +kernel)
              have HSY := hide (show decide (sameBracket [0, 1, 2, 3] [0, 2, 1, 3]) = false from by decide +kernel)
              have HSZ := hide (show decide (sameBracket [3, 2, 0, 1] [0, 1, 2, 3]) = true from by decide +kernel)
              clear hsv
              by_cases h4 : m ≤ 4
              · have hh4 : (m : Int) ≤ 4 := by omega
                rw [HTm.out h4]
                go_wp2_with fail
                obtain ⟨w8, hw8⟩ : ∃ w8 : World, w8 = ((w7.alloc (.cells #[.int .i64 0, .int .i64 1, .int .i64 2, .int .i64 3] 3)).alloc (.cells #[.int .i64 3, .int .i64 2, .int .i64 0, .int .i64 1] 3)).alloc (.cells #[.int .i64 0, .int .i64 2, .int .i64 1, .int .i64 3] 3) := ⟨_, rfl⟩
                have HX8 := hide (show Ext w4 w8 by rw [hw8]; exact ((HX7.out.alloc _).alloc _).alloc _)
                have HLX := hide (show Ints w8 (some ⟨w7.heap.size, 0, none⟩) 4 4 [0, 1, 2, 3] from by
                  rw [hw8]
                  exact (OwI.lit w7 [0, 1, 2, 3] (base := 0) (by intro x hx; simp at hx; rcases hx with rfl | rfl | rfl | rfl <;> exact ⟨by omega, by omega⟩) (by simp) (Nat.zero_le _)).ints.ext ((Ext.one _ _).alloc _))
                have HLY := hide (show Ints w8 (some ⟨w7.heap.size + 1, 0, none⟩) 4 4 [3, 2, 0, 1] from by
                  rw [hw8]
                  have := (OwI.lit (w7.alloc (.cells #[.int .i64 0, .int .i64 1, .int .i64 2, .int .i64 3] 3)) [3, 2, 0, 1] (base := 0) (by intro x hx; simp at hx; rcases hx with rfl | rfl | rfl | rfl <;> exact ⟨by omega, by omega⟩) (by simp) (Nat.zero_le _)).ints.ext (Ext.one _ (.cells #[.int .i64 0, .int .i64 2, .int .i64 1, .int .i64 3] 3))
                  rw [World.size_alloc] at this
                  exact this)
                have HLZ := hide (show Ints w8 (some ⟨w7.heap.size + 2, 0, none⟩) 4 4 [0, 2, 1, 3] from by
                  rw [hw8]
                  have := (OwI.lit ((w7.alloc (.cells #[.int .i64 0, .int .i64 1, .int .i64 2, .int .i64 3] 3)).alloc (.cells #[.int .i64 3, .int .i64 2, .int .i64 0, .int .i64 1] 3)) [0, 2, 1, 3] (base := 0) (by intro x hx; simp at hx; rcases hx with rfl | rfl | rfl | rfl <;> exact ⟨by omega, by omega⟩) (by simp) (Nat.zero_le _)).ints
                  rw [World.size_alloc, World.size_alloc] at this
                  exact this)
                have HW8 := hide hw8
                clear hw8 k0 k1
                rw [← HW8.out]
                refine (iSame_any _ _ _ [0, 1, 2, 3] _ _ _ [3, 2, 0, 1] _ HLX.out HLY.out).mono ?_
                rw [HSX.out]
                rintro e w9 ⟨rfl, hE⟩
                have HX9 := hide hE
                clear hE
                go_wp2_with fail
                refine (iSame_any _ _ _ [0, 1, 2, 3] _ _ _ [0, 2, 1, 3] _ (HLX.out.ext HX9.out) (HLZ.out.ext HX9.out)).mono ?_
                rw [HSY.out]
                rintro e w10 ⟨rfl, hE⟩
                have HX10 := hide (HX9.out.trans hE)
                clear hE
                go_wp2_with fail
                refine (iSame_any _ _ _ [3, 2, 0, 1] _ _ _ [0, 1, 2, 3] _ (HLY.out.ext HX10.out) (HLX.out.ext HX10.out)).mono ?_
                rw [HSZ.out]
                rintro e w11 ⟨rfl, hE⟩
                have HX11 := hide (HX8.out.trans (HX10.out.trans hE))
                clear hE
                have k0 := HX11.out.get C0.out
                have k1 := HX11.out.get C1.out
                go_wp2_with fail
                refine (CV.out w11 HX11.out).mono ?_
                rintro e w12 ⟨rfl, hE⟩
                have HX12 := hide (HX11.out.trans hE)
                clear hE k0 k1
                have k0 := HX12.out.get C0.out
                have k1 := HX12.out.get C1.out
                by_cases hs0 : sv < 0
                · go_wp2
                  go_ret
                  exact ⟨rfl, HE.out.trans HX12.out⟩
                · have hse := HSOV.out (by omega)
                  obtain ⟨v, rfl⟩ : ∃ v : Nat, sv = (v : Int) := ⟨sv.toNat, by omega⟩
                  rw [Int.toNat_natCast] at hse
                  have hv8 : v ≤ 8 := by omega
                  have hv64 : v < 64 := by omega
                  have HQ := hide (show ((V : Int) == wrap64 (2 ^ v)) = true from by
                    rw [(wrap_pow hv8).1, hse]; simp)
                  have hvi : (0 : Int) ≤ (v : Int) := by omega
                  clear hse hs0
                  go_wp2_with fail
                  refine (CV.out w12 HX12.out).mono ?_
                  rintro e w13 ⟨rfl, hE⟩
                  have hq := HQ.out
                  go_wp2
                  go_ret
                  exact ⟨rfl, HE.out.trans (HX12.out.trans hE)⟩
              · have hh4 : ¬ (m : Int) ≤ 4 := by omega
                go_wp2_with fail
                obtain ⟨w8, hw8⟩ : ∃ w8 : World, w8 = ((w7.alloc (.cells #[.int .i64 0, .int .i64 1, .int .i64 2, .int .i64 3] 3)).alloc (.cells #[.int .i64 3, .int .i64 2, .int .i64 0, .int .i64 1] 3)).alloc (.cells #[.int .i64 0, .int .i64 2, .int .i64 1, .int .i64 3] 3) := ⟨_, rfl⟩
                have HX8 := hide (show Ext w4 w8 by rw [hw8]; exact ((HX7.out.alloc _).alloc _).alloc _)
                have HLX := hide (show Ints w8 (some ⟨w7.heap.size, 0, none⟩) 4 4 [0, 1, 2, 3] from by
                  rw [hw8]
                  exact (OwI.lit w7 [0, 1, 2, 3] (base := 0) (by intro x hx; simp at hx; rcases hx with rfl | rfl | rfl | rfl <;> exact ⟨by omega, by omega⟩) (by simp) (Nat.zero_le _)).ints.ext ((Ext.one _ _).alloc _))
                have HLY := hide (show Ints w8 (some ⟨w7.heap.size + 1, 0, none⟩) 4 4 [3, 2, 0, 1] from by
                  rw [hw8]
                  have := (OwI.lit (w7.alloc (.cells #[.int .i64 0, .int .i64 1, .int .i64 2, .int .i64 3] 3)) [3, 2, 0, 1] (base := 0) (by intro x hx; simp at hx; rcases hx with rfl | rfl | rfl | rfl <;> exact ⟨by omega, by omega⟩) (by simp) (Nat.zero_le _)).ints.ext (Ext.one _ (.cells #[.int .i64 0, .int .i64 2, .int .i64 1, .int .i64 3] 3))
                  rw [World.size_alloc] at this
                  exact this)
                have HLZ := hide (show Ints w8 (some ⟨w7.heap.size + 2, 0, none⟩) 4 4 [0, 2, 1, 3] from by
                  rw [hw8]
                  have := (OwI.lit ((w7.alloc (.cells #[.int .i64 0, .int .i64 1, .int .i64 2, .int .i64 3] 3)).alloc (.cells #[.int .i64 3, .int .i64 2, .int .i64 0, .int .i64 1] 3)) [0, 2, 1, 3] (base := 0) (by intro x hx; simp at hx; rcases hx with rfl | rfl | rfl | rfl <;> exact ⟨by omega, by omega⟩) (by simp) (Nat.zero_le _)).ints
                  rw [World.size_alloc, World.size_alloc] at this
                  exact this)
                have HW8 := hide hw8
                clear hw8 k0 k1
                rw [← HW8.out]
                refine (iSame_any _ _ _ [0, 1, 2, 3] _ _ _ [3, 2, 0, 1] _ HLX.out HLY.out).mono ?_
                rw [HSX.out]
                rintro e w9 ⟨rfl, hE⟩
                have HX9 := hide hE
                clear hE
                go_wp2_with fail
                refine (iSame_any _ _ _ [0, 1, 2, 3] _ _ _ [0, 2, 1, 3] _ (HLX.out.ext HX9.out) (HLZ.out.ext HX9.out)).mono ?_
                rw [HSY.out]
                rintro e w10 ⟨rfl, hE⟩
                have HX10 := hide (HX9.out.trans hE)
                clear hE
                go_wp2_with fail
                refine (iSame_any _ _ _ [3, 2, 0, 1] _ _ _ [0, 1, 2, 3] _ (HLY.out.ext HX10.out) (HLX.out.ext HX10.out)).mono ?_
                rw [HSZ.out]
                rintro e w11 ⟨rfl, hE⟩
                have HX11 := hide (HX8.out.trans (HX10.out.trans hE))
                clear hE
                have k0 := HX11.out.get C0.out
                have k1 := HX11.out.get C1.out
                go_wp2_with fail
                refine (CV.out w11 HX11.out).mono ?_
                rintro e w12 ⟨rfl, hE⟩
                have HX12 := hide (HX11.out.trans hE)
                clear hE k0 k1
                have k0 := HX12.out.get C0.out
                have k1 := HX12.out.get C1.out
                by_cases hs0 : sv < 0
                · go_wp2
                  go_ret
                  exact ⟨rfl, HE.out.trans HX12.out⟩
                · have hse := HSOV.out (by omega)
                  obtain ⟨v, rfl⟩ : ∃ v : Nat, sv = (v : Int) := ⟨sv.toNat, by omega⟩
                  rw [Int.toNat_natCast] at hse
                  have hv8 : v ≤ 8 := by omega
                  have hv64 : v < 64 := by omega
                  have HQ := hide (show ((V : Int) == wrap64 (2 ^ v)) = true from by
                    rw [(wrap_pow hv8).1, hse]; simp)
                  have hvi : (0 : Int) ≤ (v : Int) := by omega
                  clear hse hs0
                  go_wp2_with fail
                  refine (CV.out w12 HX12.out).mono ?_
                  rintro e w13 ⟨rfl, hE⟩
                  have hq := HQ.out
                  go_wp2
                  go_ret
                  exact ⟨rfl, HE.out.trans (HX12.out.trans hE)⟩

end Go.Proofs.YtbaljgdepicigaaDoor
