/-
  Contracts of the functions that count a bracket's rounds.
-/
import Derived.Laws.ShiftsVar
import Derived.Lib.LaidTab
import Derived.LaidMore
import Derived.Stop.Joined
import Derived.Test.YtgcdicfolmokfaaDoorBase
import Derived.Test.YtgcdicfolmokfaaDoorMathA
import Derived.Test.YtgcdicfolmokfaaDoorMathD
import Derived.Test.YtgcdicfolmokfaaDoorLib
import Derived.Test.YtgcdicfolmokfaaDoorAid
import Derived.Test.YtgcdicfolmokfaaDoorStep
import Derived.Test.YtgcdicfolmokfaaDoorGrid
import Derived.Test.YtgcdicfolmokfaaDoorMathB
import Derived.Test.YtgcdicfolmokfaaDoorSeed
namespace Go.Proofs.YtgcdicfolmokfaaDoor
open Go.RowKit
set_option linter.unusedVariables false

-- the table
def zs64 : List Int := [0, 1, 56, 2, 57, 49, 28, 3, 61, 58, 42, 50, 38, 29, 17, 4, 62, 47, 59, 36, 45, 43, 51, 22, 53, 39, 33, 30, 24, 18, 12, 5, 63, 55, 48, 27, 60, 41, 37, 16, 46, 35, 44, 21, 52, 32, 23, 11, 54, 26, 40, 15, 34, 20, 31, 10, 25, 14, 19, 9, 13, 8, 7, 6]
theorem zs64_data : (Rows.laid_math_bits_deBruijn64tab : DataW Unit) = Go.Lib.tabData .u8 zs64 := by kernel_rfl
/-- What the walk reads of the table. -/
def Tab (w : World) : Prop := w.cell? ⟨1, 0, none⟩ = some (.int .u8 0) ∧ w.cell? ⟨1, 1, none⟩ = some (.int .u8 1) ∧ w.cell? ⟨1, 3, none⟩ = some (.int .u8 2) ∧ w.cell? ⟨1, 7, none⟩ = some (.int .u8 3)
theorem Tab.ext {w w' : World} (h : Tab w) (hE : Ext w w') : Tab w' := ⟨hE.get h.1, hE.get h.2.1, hE.get h.2.2.1, hE.get h.2.2.2⟩
theorem tab_glob : Tryd.prog.globalNamed "math/bits.deBruijn64tab" = some 1 := by kernel_rfl
theorem tab_type : (Tryd.prog.globals[1]?).map (·.type) = some 35 := by kernel_rfl
theorem tab_of_laid {W : World} (h : laidMetH Tryd.prog Rows.fnExactRoundsOfRow.laid W) : Tab W := by
  rw [MakeChecks.laidMetH_plain _ _ _ (by kernel_rfl)] at h
  obtain ⟨ps, ⟨g0, t0, cs0, f0, p0, q0, hg0, ht0, hv0, hd0, ⟨g1, t1, cs1, f1, p1, q1, hg1, ht1, hv1, hd1, _, _⟩, _⟩, _, _⟩ := h
  obtain rfl := Option.some.inj (tab_glob.symm.trans hg1)
  obtain rfl := Option.some.inj (tab_type.symm.trans ht1)
  rw [zs64_data] at hd1
  have hc := Go.Lib.cells_of_tab Tryd.underlying35 Tryd.underlying5 (by kernel_rfl) (by kernel_rfl) hd1
  have hT : Go.Lib.TabIs Tryd.prog W "math/bits.deBruijn64tab" .u8 zs64 := by unfold Go.Lib.TabIs; rw [hv1, ← hc]
  exact ⟨hT.cell tab_glob 0 (by decide), hT.cell tab_glob 1 (by decide), hT.cell tab_glob 3 (by decide), hT.cell tab_glob 7 (by decide)⟩
-- math/bits.TrailingZeros64
theorem tz64_at (x idx k : Nat) (w : World) (hx0 : x ≠ 0) (key : IntKind.u64.wrap (bits BinOp.and IntKind.u64 (x : Int) (IntKind.u64.wrap (-(x : Int))) * 285870213051353865) / 288230376151711744 = (idx : Int)) (hi : idx < 64) (hk : k < 64) (hcell : w.cell? ⟨1, idx, none⟩ = some (.int .u8 (k : Int))) :
    Calls Tryd.prog 11 #[.int .u64 (x : Int)] w fun e w' => e = .returned (.int .i64 (k : Int)) ∧ w = w' := by
  have hxe : ((x : Int) == 0) = false := by rw [beq_eq_false_iff_ne]; omega
  go_enter Tryd.func11, Tryd.ntmps11
  go_wp2_with (simp only [key])
  go_ret
  exact ⟨rfl, rfl⟩
theorem tz64_any (x k : Nat) (w : World) (h : (x = 1 ∧ k = 0) ∨ (x = 2 ∧ k = 1) ∨ (x = 4 ∧ k = 2) ∨ (x = 8 ∧ k = 3)) (hT : Tab w) :
    Calls Tryd.prog 11 #[.int .u64 (x : Int)] w fun e w' => e = .returned (.int .i64 (k : Int)) ∧ w = w' := by
  rcases h with ⟨rfl, rfl⟩ | ⟨rfl, rfl⟩ | ⟨rfl, rfl⟩ | ⟨rfl, rfl⟩
  · exact tz64_at 1 0 0 w (by omega) (by decide +kernel) (by omega) (by omega) hT.1
  · exact tz64_at 2 1 1 w (by omega) (by decide +kernel) (by omega) (by omega) hT.2.1
  · exact tz64_at 4 3 2 w (by omega) (by decide +kernel) (by omega) (by omega) hT.2.2.1
  · exact tz64_at 8 7 3 w (by omega) (by decide +kernel) (by omega) (by omega) hT.2.2.2
theorem tz_any (x k : Nat) (w : World) (h : (x = 1 ∧ k = 0) ∨ (x = 2 ∧ k = 1) ∨ (x = 4 ∧ k = 2) ∨ (x = 8 ∧ k = 3)) (hT : Tab w) :
    Calls Tryd.prog 9 #[.int .u64 (x : Int)] w fun e w' => e = .returned (.int .i64 (k : Int)) ∧ w = w' := by
  have C := hide (fun (w' : World) (hT' : Tab w') => tz64_any x k w' h hT')
  have HT := hide hT
  clear h hT
  go_enter Tryd.func9, Tryd.ntmps9
  go_wp2_with (go_at_call 11; refine (C.out _ HT.out).mono ?_; rintro e w' ⟨rfl, rfl⟩)
  go_ret
  exact ⟨rfl, rfl⟩
-- RoundsOf
def roundsOf (n : Nat) : Int := if n = 1 then 0 else if n = 2 then 1 else if n = 4 then 2 else if n = 8 then 3 else -1
theorem sRounds_any (A : Option Addr) (n c : Nat) (w : World) : Calls Tryd.prog 4 #[.slice A n c] w fun e w' => e = .returned (.int .i64 (roundsOf n)) ∧ w = w' := by
  by_cases h1 : n = 1
  · subst h1
    go_enter Tryd.func4, Tryd.ntmps4; go_wp2; go_ret; exact ⟨rfl, rfl⟩
  · by_cases h2 : n = 2
    · subst h2
      go_enter Tryd.func4, Tryd.ntmps4; go_wp2; go_ret; exact ⟨rfl, rfl⟩
    · by_cases h4 : n = 4
      · subst h4
        go_enter Tryd.func4, Tryd.ntmps4; go_wp2; go_ret; exact ⟨rfl, rfl⟩
      · by_cases h8 : n = 8
        · subst h8
          go_enter Tryd.func4, Tryd.ntmps4; go_wp2; go_ret; exact ⟨rfl, rfl⟩
        · have HV := hide (show roundsOf n = -1 by unfold roundsOf; rw [if_neg h1, if_neg h2, if_neg h4, if_neg h8])
          have e1 : ((n : Int) == 1) = false := by rw [beq_eq_false_iff_ne]; omega
          have e2 : ((n : Int) == 2) = false := by rw [beq_eq_false_iff_ne]; omega
          have e4 : ((n : Int) == 4) = false := by rw [beq_eq_false_iff_ne]; omega
          have e8 : ((n : Int) == 8) = false := by rw [beq_eq_false_iff_ne]; omega
          clear h1 h2 h4 h8
          go_enter Tryd.func4, Tryd.ntmps4
          go_wp2
          go_ret
          exact ⟨ret_int HV.out.symm, rfl⟩
theorem iRounds_any (A : Option Addr) (n c : Nat) (w : World) (hT : Tab w) : Calls Tryd.prog 6 #[.slice A n c] w fun e w' => e = .returned (.int .i64 (roundsOf n)) ∧ w = w' := by
  have HT := hide hT
  clear hT
  by_cases hb : brkSize (n : Int)
  · have HB := hide hb
    have hk : ∃ k : Nat, ((n = 1 ∧ k = 0) ∨ (n = 2 ∧ k = 1) ∨ (n = 4 ∧ k = 2) ∨ (n = 8 ∧ k = 3)) ∧ roundsOf n = (k : Int) := by
      have : n = 1 ∨ n = 2 ∨ n = 4 ∨ n = 8 := by unfold brkSize at hb; omega
      rcases this with rfl | rfl | rfl | rfl
      · exact ⟨0, by simp, rfl⟩
      · exact ⟨1, by simp, rfl⟩
      · exact ⟨2, by simp, rfl⟩
      · exact ⟨3, by simp, rfl⟩
    obtain ⟨k, hk1, hk2⟩ := hk
    have hn8 : n ≤ 8 := by unfold brkSize at hb; omega
    have HV := hide hk2
    have C := hide (tz_any n k w hk1 HT.out)
    clear hb hk1 hk2
    go_enter Tryd.func6, Tryd.ntmps6
    go_wp2_with (first | (go_at_call 8; refine (isBracketSize_any _ _).mono ?_; rw [decide_eq_true HB.out]; rintro e w' ⟨rfl, rfl⟩) | (go_at_call 9; refine C.out.mono ?_; rintro e w' ⟨rfl, rfl⟩))
    go_ret
    exact ⟨ret_int HV.out.symm, rfl⟩
  · have HB := hide hb
    have HV := hide (show roundsOf n = -1 by unfold brkSize at hb; unfold roundsOf; rw [if_neg (by omega), if_neg (by omega), if_neg (by omega), if_neg (by omega)])
    clear hb
    go_enter Tryd.func6, Tryd.ntmps6
    go_wp2_with (go_at_call 8; refine (isBracketSize_any _ _).mono ?_; rw [decide_eq_false HB.out]; rintro e w' ⟨rfl, rfl⟩)
    go_ret
    exact ⟨ret_int HV.out.symm, rfl⟩
-- the law
theorem law_Rounds (A : Option Addr) (n c : Nat) (xs : List Int) (w : World) (h : Ints w A n c xs) (hT : Tab w) :
    Calls Tryd.prog 3 #[.slice A n c] w fun e w' => e = .returned (.bool true) ∧ Ext w w' := by
  have HI := hide h
  have HT := hide hT
  have hle := h.le
  have hmx := h.max
  have hln := h.len
  clear h hT
  by_cases hn : (1048576 : Int) < (n : Int)
  · go_enter Tryd.func3, Tryd.ntmps3
    go_wp2
    go_ret
    exact ⟨rfl, Ext.refl _⟩
  · have HLN := hide hln
    clear hln
    go_enter Tryd.func3, Tryd.ntmps3
    go_wp2_with fail
    refine (toIntS_any _ _ _ xs _ HI.out (by omega)).mono ?_
    rintro e w1 ⟨A1, c1, rfl, ho1, hE1⟩
    rw [HLN.out] at ho1 ⊢
    have HE1 := hide hE1
    clear ho1 hE1
    go_wp2_with fail
    refine (sRounds_any _ _ _ _).mono ?_
    rintro e w' ⟨rfl, rfl⟩
    go_wp2_with fail
    refine (toIntS_any _ _ _ xs _ (HI.out.ext HE1.out) (by omega)).mono ?_
    rintro e w2 ⟨A2, c2, rfl, ho2, hE2⟩
    rw [HLN.out] at ho2 ⊢
    have HO2 := hide ho2.ints
    have HE2 := hide (HE1.out.trans hE2)
    clear ho2 hE2
    go_wp2_with fail
    refine (iRounds_any _ _ _ _ (HT.out.ext HE2.out)).mono ?_
    rintro e w' ⟨rfl, rfl⟩
    have hbn : (roundsOf n != roundsOf n) = false := by simp
    go_wp2_with fail
    refine (toIntS_any _ _ _ xs _ (HI.out.ext HE2.out) (by omega)).mono ?_
    rintro e w3 ⟨A3, c3, rfl, ho3, hE3⟩
    rw [HLN.out] at ho3 ⊢
    have HO3 := hide ho3.ints
    have HO2' := hide (HO2.out.ext hE3)
    have HE3 := hide (HE2.out.trans hE3)
    clear ho3 hE3
    go_wp2_with fail
    refine (eqIntS_any _ _ _ xs _ _ _ xs _ HO2'.out HO3.out).mono ?_
    rintro e w4 ⟨rfl, hE4⟩
    have HE4 := hide (HE3.out.trans hE4)
    clear hE4
    have hdt : decide (xs = xs) = true := by simp
    rw [hdt]
    go_wp2
    go_ret
    exact ⟨rfl, HE4.out⟩

end Go.Proofs.YtgcdicfolmokfaaDoor
