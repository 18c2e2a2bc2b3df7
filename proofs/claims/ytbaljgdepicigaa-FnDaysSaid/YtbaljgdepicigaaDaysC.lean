/-
  Contracts of the functions on days of games: games of a day, courts, moves.
-/
import Derived.Deep.RegionLaw
import Derived.Test.YtbaljgdepicigaaBase
import Derived.Test.YtbaljgdepicigaaMathA
import Derived.Test.YtbaljgdepicigaaMathD
import Derived.Test.YtbaljgdepicigaaLib
import Derived.Test.YtbaljgdepicigaaAid
import Derived.Test.YtbaljgdepicigaaGrid
import Derived.Test.YtbaljgdepicigaaLibF
import Derived.Test.YtbaljgdepicigaaDays
import Derived.Test.YtbaljgdepicigaaDaysB
namespace Go.Proofs.Ytbaljgdepicigaa
open Go.RowKit
set_option linter.unusedVariables false

-- impl.MoveGame
theorem moved_yes {rows : List (List Int)} {days : List Int} {i day : Int} (h : mayMove rows days i day) : moved rows days i day = days.set i.toNat day ∧ decide (mayMove rows days i day) = true := ⟨if_pos h, decide_eq_true h⟩
theorem moved_no {rows : List (List Int)} {days : List Int} {i day : Int} (h : ¬ mayMove rows days i day) : moved rows days i day = [] ∧ decide (mayMove rows days i day) = false := ⟨if_neg h, decide_eq_false h⟩
theorem iMoveGame_any (A : Option Addr) (n c : Nat) (rows : List (List Int)) (A2 : Option Addr) (n2 c2 : Nat) (days : List Int) (i day : Int) (w : World) (h : Grid w A n c rows) (h2 : Ints w A2 n2 c2 days) (hwd : I64 day) :
    Calls Try.prog 39 #[.slice A n c, .slice A2 n2 c2, .int .i64 i, .int .i64 day] w (RetIB w (moved rows days i day) (decide (mayMove rows days i day))) := by
  have HL := hide h.len
  have HL2 := hide h2.len
  have HI := hide h
  have HI2 := hide h2
  have hle := h.le
  have hmx := h.max
  have hle2 := h2.le
  have hmx2 := h2.max
  have HWD := hide hwd; clear hwd h h2
  by_cases hok : isSchedule rows days
  · have hn18 : n ≤ 18 := by have := HL.out; have := hok.1.1; omega
    have hnn : n2 = n := by have := hok.2.1; have := HL.out; have := HL2.out; omega
    subst hnn
    have HK := hide hok
    by_cases hin : 0 ≤ i ∧ i ≤ (n2 : Int) - 1
    · obtain ⟨k, rfl⟩ : ∃ k : Nat, i = (k : Int) := ⟨i.toNat, by omega⟩
      have hkn : k < n2 := by omega
      clear hok
      by_cases hok2 : isSchedule rows (days.set k day)
      · have HF := hide (moved_yes (rows := rows) (days := days) (i := (k : Int)) (day := day) ⟨HK.out, by have := HL.out; omega, by simpa using hok2⟩)
        have HK2 := hide hok2; clear hok2
        go_enter Try.func39, Try.ntmps39
        go_wp2_with (first | (go_at_call 34; have hready := HO; refine (iIsSchedule_any _ _ _ rows _ _ _ (days.set k day) _ (HI.out.ext HE.out) HO.out.ints).mono ?_; rw [decide_eq_true HK2.out]; rintro e w3 ⟨rfl, hE3⟩) | (go_at_call 34; refine (iIsSchedule_any _ _ _ rows _ _ _ days _ HI.out HI2.out).mono ?_; rw [decide_eq_true HK.out]; rintro e w1 ⟨rfl, hE1⟩) | (go_at_call 94; refine (within_any _ _ _ _).mono ?_; rintro e w' ⟨rfl, rfl⟩) | (go_at_call 83; refine (Clone_any _ _ _ days _ (HI2.out.ext hE1) (by omega)).mono ?_; rintro e w2 ⟨B, d, rfl, hoB, hEB⟩; have hkd : k < days.length := (by have := HL2.out; omega); obtain ⟨b, off, x, rfl, hbb, hbl, hx, wx, hc, hf⟩ := hoB.get hkd; have HO := hide (hoB.store rfl hkd HWD.out); have HE := hide ((hE1.trans hEB).setCell (p := ⟨b, off + k, none⟩) (by have := hE1.size; show w.heap.size ≤ b; omega) (.int .i64 day)); clear hx hoB wx))
        go_ret2
        rw [HF.out.1, HF.out.2]
        refine RetIB.mk rfl rfl ?_ (HE.out.trans hE3)
        have := (HO.out.mono (base' := w.heap.size) hE1.size).ext hE3
        simpa using this
      · have HF := hide (moved_no (rows := rows) (days := days) (i := (k : Int)) (day := day) (fun hm => hok2 (by simpa using hm.2.2)))
        have HK2 := hide hok2; clear hok2
        go_enter Try.func39, Try.ntmps39
        go_wp2_with (first | (go_at_call 34; have hready := HO; refine (iIsSchedule_any _ _ _ rows _ _ _ (days.set k day) _ (HI.out.ext HE.out) HO.out.ints).mono ?_; rw [decide_eq_false HK2.out]; rintro e w3 ⟨rfl, hE3⟩) | (go_at_call 34; refine (iIsSchedule_any _ _ _ rows _ _ _ days _ HI.out HI2.out).mono ?_; rw [decide_eq_true HK.out]; rintro e w1 ⟨rfl, hE1⟩) | (go_at_call 94; refine (within_any _ _ _ _).mono ?_; rintro e w' ⟨rfl, rfl⟩) | (go_at_call 83; refine (Clone_any _ _ _ days _ (HI2.out.ext hE1) (by omega)).mono ?_; rintro e w2 ⟨B, d, rfl, hoB, hEB⟩; have hkd : k < days.length := (by have := HL2.out; omega); obtain ⟨b, off, x, rfl, hbb, hbl, hx, wx, hc, hf⟩ := hoB.get hkd; have HO := hide (hoB.store rfl hkd HWD.out); have HE := hide ((hE1.trans hEB).setCell (p := ⟨b, off + k, none⟩) (by have := hE1.size; show w.heap.size ≤ b; omega) (.int .i64 day)); clear hx hoB wx))
        go_ret2
        rw [HF.out.1, HF.out.2]
        exact RetIB.mk rfl rfl (OwI.nil _ _) (HE.out.trans hE3)
    · have HF := hide (moved_no (rows := rows) (days := days) (i := i) (day := day) (fun hm => hin (by have := hm.2.1; have := HL.out; omega)))
      go_enter Try.func39, Try.ntmps39
      go_wp2_with (first | (go_at_call 34; refine (iIsSchedule_any _ _ _ rows _ _ _ days _ HI.out HI2.out).mono ?_; rw [decide_eq_true HK.out]; rintro e w1 ⟨rfl, hE1⟩) | (go_at_call 94; refine (within_any _ _ _ _).mono ?_; rintro e w' ⟨rfl, rfl⟩))
      go_ret2
      rw [HF.out.1, HF.out.2]
      exact RetIB.mk rfl rfl (OwI.nil _ _) hE1
  · have HF := hide (moved_no (rows := rows) (days := days) (i := i) (day := day) (fun hm => hok hm.1))
    go_enter Try.func39, Try.ntmps39
    go_wp2_with (first | (go_at_call 34; refine (iIsSchedule_any _ _ _ rows _ _ _ days _ HI.out HI2.out).mono ?_; rw [decide_eq_false hok]; rintro e w1 ⟨rfl, hE1⟩))
    go_ret2
    rw [HF.out.1, HF.out.2]
    exact RetIB.mk rfl rfl (OwI.nil _ _) hE1

end Go.Proofs.Ytbaljgdepicigaa
