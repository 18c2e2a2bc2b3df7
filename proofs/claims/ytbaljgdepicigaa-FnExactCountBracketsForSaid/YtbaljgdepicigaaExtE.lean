/-
  How many brackets a player wins: the reference's count.
-/
import Derived.Deep.RegionHeld3
import Derived.Laws.ShiftsVar
import Derived.Test.YtbaljgdepicigaaBase
import Derived.Test.YtbaljgdepicigaaMathA
import Derived.Test.YtbaljgdepicigaaMathD
import Derived.Test.YtbaljgdepicigaaLib
import Derived.Test.YtbaljgdepicigaaAid
import Derived.Test.YtbaljgdepicigaaStep
import Derived.Test.YtbaljgdepicigaaGrid
import Derived.Test.YtbaljgdepicigaaLibF
import Derived.Test.YtbaljgdepicigaaMathB
import Derived.Test.YtbaljgdepicigaaMathU
import Derived.Test.YtbaljgdepicigaaMathS
import Derived.Test.YtbaljgdepicigaaMathP
import Derived.Test.YtbaljgdepicigaaMathR
import Derived.Test.YtbaljgdepicigaaMathW
import Derived.Test.YtbaljgdepicigaaMathZ
import Derived.Test.YtbaljgdepicigaaMathY
import Derived.Test.YtbaljgdepicigaaSeed
import Derived.Test.YtbaljgdepicigaaTour
import Derived.Test.YtbaljgdepicigaaTourB
import Derived.Test.YtbaljgdepicigaaBrack
import Derived.Test.YtbaljgdepicigaaBrackB
import Derived.Test.YtbaljgdepicigaaDblB
import Derived.Test.YtbaljgdepicigaaPop
import Derived.Test.YtbaljgdepicigaaWin
import Derived.Test.YtbaljgdepicigaaWinB
import Derived.Test.YtbaljgdepicigaaWinC
import Derived.Test.YtbaljgdepicigaaRangeA
import Derived.Test.YtbaljgdepicigaaFillA
import Derived.Test.YtbaljgdepicigaaFillB
import Derived.Test.YtbaljgdepicigaaFillC
import Derived.Test.YtbaljgdepicigaaFillD
import Derived.Test.YtbaljgdepicigaaFillE
import Derived.Test.YtbaljgdepicigaaFillF
import Derived.Test.YtbaljgdepicigaaFillG
import Derived.Test.YtbaljgdepicigaaRangeB
import Derived.Test.YtbaljgdepicigaaExtA
import Derived.Test.YtbaljgdepicigaaExtB
import Derived.Test.YtbaljgdepicigaaExtC
import Derived.Test.YtbaljgdepicigaaExtD
namespace Go.Proofs.Ytbaljgdepicigaa
open Go.RowKit
set_option linter.unusedVariables false
set_option maxRecDepth 100000

-- words
def nameL (n : Nat) : List (List Int) := (List.range (fac n)).map fun i => namesL n i (turnL n)
theorem names_perm {n : Nat} (h : n = 1 ∨ n = 2 ∨ n = 4) : (nameL n).Perm (ordersL n) := by
  rcases h with rfl | rfl | rfl <;> decide +kernel
theorem nameL_len (n : Nat) : (nameL n).length = fac n := by simp [nameL]
theorem nameL_take {n i : Nat} (h : i < fac n) : (nameL n).take (i + 1) = (nameL n).take i ++ [namesL n i (turnL n)] := take_snoc_of (by simp [nameL, h])
theorem nameL_mem {n i : Nat} (h : i < fac n) : namesL n i (turnL n) ∈ nameL n := by
  unfold nameL; exact List.mem_map.2 ⟨i, by simpa using h, rfl⟩
theorem cnt_names {n : Nat} {xs : List Int} {a : Int} (h : n = 1 ∨ n = 2 ∨ n = 4) : cntP xs a (ordersL n) = cntP xs a (nameL n) := ((names_perm h).countP_eq _).symm
theorem cntOk_n {s : Int} {xs : List Int} {a : Int} {n : Nat} (h : cntOk s xs a) (hl : xs.length = n) : n = 1 ∨ n = 2 ∨ n = 4 := by
  have h1 := tourOk_sz h.1.1 hl
  have h2 := h.1.2
  have h3 := h.2.1
  unfold brkSize at h2
  omega
-- spec.CountBracketsFor
set_option maxHeartbeats 1000000 in
theorem sCountFor_any (s : Int) (A : Option Addr) (n c : Nat) (xs : List Int) (a : Int) (w : World) (h : Ints w A n c xs) :
    Calls Try.prog 43 #[.agg #[.int .i64 s, .slice A n c], .int .i64 a] w fun e w' => e = .returned (.int .i64 (countFor s xs a)) ∧ Ext w w' := by
  have HL := hide h.len
  have HI := hide h
  clear h
  obtain ⟨W, hW⟩ : ∃ W : World, W = w.alloc (.cells #[.int .i64 s, .slice A n c] 33) := ⟨_, rfl⟩
  have HE := hide (show Ext w W by rw [hW]; exact Ext.one _ _)
  have B0 := hide (show W.cell? ⟨w.heap.size, 0, none⟩ = some (.int .i64 s) by rw [hW]; simp)
  have B1 := hide (show W.cell? ⟨w.heap.size, 1, none⟩ = some (.slice A n c) by rw [hW]; simp)
  have HW := hide hW
  clear hW
  by_cases hs : cntOk s xs a
  · have h124 := cntOk_n hs HL.out
    have hn := tourOk_sz hs.1.1 HL.out
    obtain rfl : s = (n : Int) := by omega
    have HF := hide (show countFor (n : Int) xs a = (cntP xs a (nameL n) : Int) by unfold countFor; rw [if_pos hs, HL.out, cnt_names h124])
    have hn4 : n ≤ 4 := by omega
    have HFX := hide hs.1
    have HPL := hide (show decide (tourOk (n : Int) xs ∧ 0 ≤ a ∧ a ≤ (n : Int) - 1) = true from decide_eq_true ⟨hs.1.1, hs.2.2⟩)
    have HSZ := hide (show decide (brkSize (n : Int)) = true from decide_eq_true hs.1.2)
    have hgt : ¬ (4 : Int) < (n : Int) := by omega
    have HB := hide (fun i (hi : i < fac n) => ordersL_brk (p := namesL n i (turnL n)) hs.1 HL.out ((names_perm h124).mem_iff.1 (nameL_mem hi)))
    have HLN := hide (fun i (hi : i < fac n) => (ordersL_mem ((names_perm h124).mem_iff.1 (nameL_mem hi))).1)
    have hf24 := fac_le hn4
    clear hs h124 hn
    go_enter Try.func43, Try.ntmps43
    go_wp2_with (first
      | (rw [← HW.out]; go_at_call 109; refine (l02Player_any _ _ _ _ xs _ _ (HI.out.ext HE.out)).mono ?_; rw [HPL.out]; rintro e w1 ⟨rfl, hE1⟩; have d0 := hE1.get B0.out; have d1 := hE1.get B1.out)
      | (go_at_call 110; refine (l21Size_any _ _).mono ?_; rw [HSZ.out]; rintro e w' ⟨rfl, rfl⟩)
      | fail)
    have HE1 := hide (HE.out.trans hE1)
    have D0 := hide d0
    have D1 := hide d1
    clear hE1 d0 d1
    go_loopw [5, 6] (fun k i wr => ∃ j : Nat, j ≤ fac n ∧ i = .int .i64 (j : Int) ∧ k = .int .i64 (cntP xs a ((nameL n).take j) : Int) ∧ Ext w1 wr) (fun _ i _ => fac n - (intOf i).toNat)
    case atStart => exact ⟨0, Nat.zero_le _, rfl, rfl, Ext.refl _⟩
    case round =>
      obtain ⟨j, hj, rfl, rfl, hE⟩ := hrel
      have HER := hide hE
      have d0 := hE.get D0.out
      have d1 := hE.get D1.out
      clear hE
      have hcn : cntP xs a ((nameL n).take j) ≤ 24 := by have := cntP_le (xs := xs) (a := a) (l := (nameL n).take j); rw [List.length_take] at this; omega
      by_cases hlt : j < fac n
      · have hji : (j : Int) < (fac n : Int) := by omega
        have HBJ := hide (HB.out j hlt)
        have HLJ := hide (HLN.out j hlt)
        have HTK := hide (nameL_take hlt)
        have KS := hide (show ∀ w', Ext wr w' → (Ext wr w' ∧ w'.cell? ⟨w.heap.size, 0, none⟩ = some (.int .i64 (n : Int)) ∧ w'.cell? ⟨w.heap.size, 1, none⟩ = some (.slice A n c)) from fun w' hh => ⟨hh, hh.get d0, hh.get d1⟩)
        go_wp2_with (first
          | (go_at_call 111; refine (l11Count_any n _ hn4).mono ?_; rintro e w' ⟨rfl, rfl⟩)
          | fail)
        go_region_held3 (fun w' => Ext wr w' ∧ w'.cell? ⟨w.heap.size, 0, none⟩ = some (.int .i64 (n : Int)) ∧ w'.cell? ⟨w.heap.size, 1, none⟩ = some (.slice A n c))
          (first | exact KS.out _ (Ext.refl _) | exact KS.out _ (Ext.refl _).drew | exact KS.out _ ((Ext.refl _).drew.trans hE2) | exact KS.out _ (((Ext.refl _).drew.trans hE2).trans hE3))
          (first
            | (go_at_call 113; refine (l11Names_any n j _ hn4 (by omega)).mono ?_; rintro e w2 ⟨B, d, rfl, hoB, hE2⟩)
            | (go_at_call 112; refine (sWinner_any _ _ _ _ xs _ _ _ (namesL n j (turnL n)) _ (HI.out.ext (((HE1.out.trans HER.out).drew).trans hE2)) hoB.ints HFX.out.1 HBJ.out).mono ?_; rintro e w3 ⟨rfl, hE3⟩))
        have HE3 := hide (((HER.out.drew).trans hE2).trans hE3)
        clear hE2 hE3 hoB d0 d1
        by_cases hw : winner xs (namesL n j (turnL n)) = a
        · have hwa : (winner xs (namesL n j (turnL n)) == a) = true := by simpa using hw
          have HCN := hide (show cntP xs a ((nameL n).take (j + 1)) = cntP xs a ((nameL n).take j) + 1 by rw [HTK.out]; exact cntP_snoc_yes hw)
          clear hw
          go_wp2
          go_roundw
          case rel => exact ⟨j + 1, by omega, by go_num, by rw [HCN.out]; go_num, HE3.out⟩
          case measure => (simp [intOf] <;> omega)
        · have hwa : (winner xs (namesL n j (turnL n)) == a) = false := by simpa using hw
          have HCN := hide (show cntP xs a ((nameL n).take (j + 1)) = cntP xs a ((nameL n).take j) by rw [HTK.out]; exact cntP_snoc_no hw)
          clear hw
          go_wp2
          go_roundw
          case rel => exact ⟨j + 1, by omega, by go_num, by rw [HCN.out], HE3.out⟩
          case measure => (simp [intOf] <;> omega)
      · have hji : ¬ (j : Int) < (fac n : Int) := by omega
        have HT := hide (show (nameL n).take j = nameL n from List.take_of_length_le (by rw [nameL_len]; omega))
        clear d1
        go_wp2_with (first
          | (go_at_call 111; refine (l11Count_any n _ hn4).mono ?_; rintro e w' ⟨rfl, rfl⟩)
          | fail)
        go_ret
        exact ⟨ret_int (by rw [HF.out, HT.out]), HE1.out.trans HER.out⟩
  · have HF := hide (show countFor s xs a = -1 from if_neg hs)
    by_cases hp : tourOk s xs ∧ 0 ≤ a ∧ a ≤ s - 1
    · have HPL := hide (show decide (tourOk s xs ∧ 0 ≤ a ∧ a ≤ s - 1) = true from decide_eq_true hp)
      have hn := tourOk_sz hp.1 HL.out
      by_cases h4 : 4 < s
      · clear hp hs
        go_enter Try.func43, Try.ntmps43
        go_wp2_with (first
          | (rw [← HW.out]; go_at_call 109; refine (l02Player_any _ _ _ _ xs _ _ (HI.out.ext HE.out)).mono ?_; rw [HPL.out]; rintro e w1 ⟨rfl, hE1⟩; have d0 := hE1.get B0.out; have d1 := hE1.get B1.out)
          | fail)
        go_ret
        exact ⟨ret_int HF.out.symm, HE.out.trans hE1⟩
      · have HSZ := hide (show decide (brkSize s) = false from decide_eq_false fun hb => hs ⟨⟨hp.1, hb⟩, by omega, hp.2⟩)
        clear hp hs
        go_enter Try.func43, Try.ntmps43
        go_wp2_with (first
          | (rw [← HW.out]; go_at_call 109; refine (l02Player_any _ _ _ _ xs _ _ (HI.out.ext HE.out)).mono ?_; rw [HPL.out]; rintro e w1 ⟨rfl, hE1⟩; have d0 := hE1.get B0.out; have d1 := hE1.get B1.out)
          | (go_at_call 110; refine (l21Size_any _ _).mono ?_; rw [HSZ.out]; rintro e w' ⟨rfl, rfl⟩)
          | fail)
        go_ret
        exact ⟨ret_int HF.out.symm, HE.out.trans hE1⟩
    · have HPL := hide (show decide (tourOk s xs ∧ 0 ≤ a ∧ a ≤ s - 1) = false from decide_eq_false hp)
      clear hp hs
      go_enter Try.func43, Try.ntmps43
      go_wp2_with (first
        | (rw [← HW.out]; go_at_call 109; refine (l02Player_any _ _ _ _ xs _ _ (HI.out.ext HE.out)).mono ?_; rw [HPL.out]; rintro e w1 ⟨rfl, hE1⟩; have d0 := hE1.get B0.out; have d1 := hE1.get B1.out)
        | fail)
      go_ret
      exact ⟨ret_int HF.out.symm, HE.out.trans hE1⟩

end Go.Proofs.Ytbaljgdepicigaa
