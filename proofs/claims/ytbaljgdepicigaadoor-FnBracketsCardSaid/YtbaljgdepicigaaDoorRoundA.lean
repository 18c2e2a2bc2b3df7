/-
  Contracts of the functions that count a bracket's rounds.
-/
import Derived.Laws.ShiftsVar
import Derived.Lib.LaidTab
import Derived.LaidMore
import Derived.Stop.Joined
import Derived.Test.YtbaljgdepicigaaDoorBase
import Derived.Test.YtbaljgdepicigaaDoorMgA
import Derived.Test.YtbaljgdepicigaaDoorLib
import Derived.Test.YtbaljgdepicigaaDoorAid
import Derived.Test.YtbaljgdepicigaaDoorStep
import Derived.Test.YtbaljgdepicigaaDoorGrid
import Derived.Test.YtbaljgdepicigaaDoorLibF
import Derived.Test.YtbaljgdepicigaaDoorSeed
namespace Go.Proofs.YtbaljgdepicigaaDoor
open Go.RowKit
set_option linter.unusedVariables false

-- the table
def zs64 : List Int := [0, 1, 56, 2, 57, 49, 28, 3, 61, 58, 42, 50, 38, 29, 17, 4, 62, 47, 59, 36, 45, 43, 51, 22, 53, 39, 33, 30, 24, 18, 12, 5, 63, 55, 48, 27, 60, 41, 37, 16, 46, 35, 44, 21, 52, 32, 23, 11, 54, 26, 40, 15, 34, 20, 31, 10, 25, 14, 19, 9, 13, 8, 7, 6]
theorem zs64_data : (Rows.laid_math_bits_deBruijn64tab : DataW Unit) = Go.Lib.tabData .u8 zs64 := by kernel_rfl
/-- What the walk reads of the table. -/
def Tab (w : World) : Prop := w.cell? ⟨1, 0, none⟩ = some (.int .u8 0) ∧ w.cell? ⟨1, 1, none⟩ = some (.int .u8 1) ∧ w.cell? ⟨1, 3, none⟩ = some (.int .u8 2) ∧ w.cell? ⟨1, 7, none⟩ = some (.int .u8 3)
theorem Tab.ext {w w' : World} (h : Tab w) (hE : Ext w w') : Tab w' := ⟨hE.get h.1, hE.get h.2.1, hE.get h.2.2.1, hE.get h.2.2.2⟩
theorem tab_glob : Tryd.prog.globalNamed "math/bits.deBruijn64tab" = some 1 := by kernel_rfl
theorem tab_type : (Tryd.prog.globals[1]?).map (·.type) = some 96 := by kernel_rfl
-- tab_of_fix
theorem tab_of_fix {W : World} (h : laidMetH Tryd.prog Rows.fnFixingRow.laid W) : Tab W := by
  rw [MakeChecks.laidMetH_plain _ _ _ (by kernel_rfl)] at h
  obtain ⟨ps, ⟨g0, t0, cs0, f0, p0, q0, hg0, ht0, hv0, hd0, ⟨g1, t1, cs1, f1, p1, q1, hg1, ht1, hv1, hd1, _, _⟩, _⟩, _, _⟩ := h
  obtain rfl := Option.some.inj (tab_glob.symm.trans hg1)
  obtain rfl := Option.some.inj (tab_type.symm.trans ht1)
  rw [zs64_data] at hd1
  have hc := Go.Lib.cells_of_tab Tryd.underlying96 Tryd.underlying5 (by kernel_rfl) (by kernel_rfl) hd1
  have hT : Go.Lib.TabIs Tryd.prog W "math/bits.deBruijn64tab" .u8 zs64 := by unfold Go.Lib.TabIs; rw [hv1, ← hc]
  exact ⟨hT.cell tab_glob 0 (by decide), hT.cell tab_glob 1 (by decide), hT.cell tab_glob 3 (by decide), hT.cell tab_glob 7 (by decide)⟩
-- tab_of_brk
theorem tab_of_brk {W : World} (h : laidMetH Tryd.prog Rows.fnBracketsRow.laid W) : Tab W := by
  rw [MakeChecks.laidMetH_plain _ _ _ (by kernel_rfl)] at h
  obtain ⟨ps, ⟨g0, t0, cs0, f0, p0, q0, hg0, ht0, hv0, hd0, ⟨g1, t1, cs1, f1, p1, q1, hg1, ht1, hv1, hd1, _, _⟩, _⟩, _, _⟩ := h
  obtain rfl := Option.some.inj (tab_glob.symm.trans hg1)
  obtain rfl := Option.some.inj (tab_type.symm.trans ht1)
  rw [zs64_data] at hd1
  have hc := Go.Lib.cells_of_tab Tryd.underlying96 Tryd.underlying5 (by kernel_rfl) (by kernel_rfl) hd1
  have hT : Go.Lib.TabIs Tryd.prog W "math/bits.deBruijn64tab" .u8 zs64 := by unfold Go.Lib.TabIs; rw [hv1, ← hc]
  exact ⟨hT.cell tab_glob 0 (by decide), hT.cell tab_glob 1 (by decide), hT.cell tab_glob 3 (by decide), hT.cell tab_glob 7 (by decide)⟩
-- math/bits.TrailingZeros64
theorem tz64_at (x idx k : Nat) (w : World) (hx0 : x ≠ 0) (key : IntKind.u64.wrap (bits BinOp.and IntKind.u64 (x : Int) (IntKind.u64.wrap (-(x : Int))) * 285870213051353865) / 288230376151711744 = (idx : Int)) (hi : idx < 64) (hk : k < 64) (hcell : w.cell? ⟨1, idx, none⟩ = some (.int .u8 (k : Int))) :
    Calls Tryd.prog 88 #[.int .u64 (x : Int)] w fun e w' => e = .returned (.int .i64 (k : Int)) ∧ w = w' := by
  have hxe : ((x : Int) == 0) = false := by rw [beq_eq_false_iff_ne]; omega
  go_enter Tryd.func88, Tryd.ntmps88
  go_wp2_with (simp only [key])
  go_ret
  exact ⟨rfl, rfl⟩
theorem tz64_any (x k : Nat) (w : World) (h : (x = 1 ∧ k = 0) ∨ (x = 2 ∧ k = 1) ∨ (x = 4 ∧ k = 2) ∨ (x = 8 ∧ k = 3)) (hT : Tab w) :
    Calls Tryd.prog 88 #[.int .u64 (x : Int)] w fun e w' => e = .returned (.int .i64 (k : Int)) ∧ w = w' := by
  rcases h with ⟨rfl, rfl⟩ | ⟨rfl, rfl⟩ | ⟨rfl, rfl⟩ | ⟨rfl, rfl⟩
  · exact tz64_at 1 0 0 w (by omega) (by decide +kernel) (by omega) (by omega) hT.1
  · exact tz64_at 2 1 1 w (by omega) (by decide +kernel) (by omega) (by omega) hT.2.1
  · exact tz64_at 4 3 2 w (by omega) (by decide +kernel) (by omega) (by omega) hT.2.2.1
  · exact tz64_at 8 7 3 w (by omega) (by decide +kernel) (by omega) (by omega) hT.2.2.2
theorem tz_any (x k : Nat) (w : World) (h : (x = 1 ∧ k = 0) ∨ (x = 2 ∧ k = 1) ∨ (x = 4 ∧ k = 2) ∨ (x = 8 ∧ k = 3)) (hT : Tab w) :
    Calls Tryd.prog 60 #[.int .u64 (x : Int)] w fun e w' => e = .returned (.int .i64 (k : Int)) ∧ w = w' := by
  have C := hide (fun (w' : World) (hT' : Tab w') => tz64_any x k w' h hT')
  have HT := hide hT
  clear h hT
  go_enter Tryd.func60, Tryd.ntmps60
  go_wp2_with (go_at_call 88; refine (C.out _ HT.out).mono ?_; rintro e w' ⟨rfl, rfl⟩)
  go_ret
  exact ⟨rfl, rfl⟩
-- RoundsOf
def roundsOf (n : Nat) : Int := if n = 1 then 0 else if n = 2 then 1 else if n = 4 then 2 else if n = 8 then 3 else -1
-- impl.RoundsOf
theorem iRounds_any (A : Option Addr) (n c : Nat) (w : World) (hT : Tab w) : Calls Tryd.prog 17 #[.slice A n c] w fun e w' => e = .returned (.int .i64 (roundsOf n)) ∧ w = w' := by
  have HT := hide hT
  clear hT
  by_cases hb : brkSize (n : Int)
  · have HB := hide hb
    have hk : ∃ k : Nat, ((n = 1 ∧ k = 0) ∨ (n = 2 ∧ k = 1) ∨ (n = 4 ∧ k = 2) ∨ (n = 8 ∧ k = 3)) ∧ roundsOf n = (k : Int) := by
      have : n = 1 ∨ n = 2 ∨ n = 4 ∨ n = 8 := by unfold brkSize at hb; omega
      rcases this with rfl | rfl | rfl | rfl
      · exact ⟨0, by simp, rfl⟩
      · exact ⟨1, by simp, rfl⟩
      · exact ⟨2, by simp, rfl⟩
      · exact ⟨3, by simp, rfl⟩
    obtain ⟨k, hk1, hk2⟩ := hk
    have hn8 : n ≤ 8 := by unfold brkSize at hb; omega
    have HV := hide hk2
    have C := hide (tz_any n k w hk1 HT.out)
    clear hb hk1 hk2
    go_enter Tryd.func17, Tryd.ntmps17
    go_wp2_with (first | (go_at_call 45; refine (isBracketSize_any _ _).mono ?_; rw [decide_eq_true HB.out]; rintro e w' ⟨rfl, rfl⟩) | (go_at_call 60; refine C.out.mono ?_; rintro e w' ⟨rfl, rfl⟩))
    go_ret
    exact ⟨ret_int HV.out.symm, rfl⟩
  · have HB := hide hb
    have HV := hide (show roundsOf n = -1 by unfold brkSize at hb; unfold roundsOf; rw [if_neg (by omega), if_neg (by omega), if_neg (by omega), if_neg (by omega)])
    clear hb
    go_enter Tryd.func17, Tryd.ntmps17
    go_wp2_with (go_at_call 45; refine (isBracketSize_any _ _).mono ?_; rw [decide_eq_false HB.out]; rintro e w' ⟨rfl, rfl⟩)
    go_ret
    exact ⟨ret_int HV.out.symm, rfl⟩

end Go.Proofs.YtbaljgdepicigaaDoor
