/-
  Contracts of the functions on runs of rounds at home and away.
-/
import Derived.Test.YtbaljgdepicigaaBase
import Derived.Test.YtbaljgdepicigaaMathA
import Derived.Test.YtbaljgdepicigaaMathD
import Derived.Test.YtbaljgdepicigaaLib
import Derived.Test.YtbaljgdepicigaaAid
import Derived.Test.YtbaljgdepicigaaGrid
import Derived.Test.YtbaljgdepicigaaLibF
import Derived.Test.YtbaljgdepicigaaMathT
import Derived.Test.YtbaljgdepicigaaDist
import Derived.Test.YtbaljgdepicigaaPlan
import Derived.Test.YtbaljgdepicigaaPlanB
namespace Go.Proofs.Ytbaljgdepicigaa
open Go.RowKit
set_option linter.unusedVariables false

-- LongestStay closure
theorem stay_pred (rows : List (List Int)) (k : Nat) (w : World) (a : Nat) (ha : w.cell? ⟨a, 0, none⟩ = some (.int .i64 (k : Int))) (hk : ∀ r ∈ rows, k < r.length) :
    PredR 127 #[.pointer (some ⟨a, 0, none⟩)] (homeAt k) rows w := by
  intro W B d r hr hi hE
  have ha' := hE.get ha
  have hkr := hk r hr
  have hrd := hi.le
  have hrm := hi.rd.max
  obtain ⟨b, off, x, rfl, hb, hx, wx, hc⟩ := hi.get hkr
  have HF := hide (show homeAt k r = decide (0 < x) by simp [homeAt, List.getD, hx])
  clear hx hi ha hE hk
  go_enter Try.func127, Try.ntmps127
  go_wp2
  go_ret
  exact ⟨ret_bool HF.out.symm, Ext.refl _⟩
theorem iLongestStay_any (m : Int) (A : Option Addr) (n c : Nat) (rows : List (List Int)) (k : Int) (w : World) (hm : I64 m) (hk : I64 k) (h : Grid w A n c rows) :
    Calls Try.prog 58 #[.int .i64 m, .slice A n c, .int .i64 k] w fun e w' => e = .returned (.int .i64 (longest homeAt m rows k)) ∧ Ext w w' := by
  have HL := hide h.len
  have HE0 := hide ((Ext.refl w).alloc (.cells #[.int .i64 k] 3))
  have HI := hide (h.ext HE0.out); clear h
  have eg : Enters Try.prog 127 := enters_of Try.func127 (by kernel_rfl) rfl
  have EG := hide eg; clear eg
  by_cases hp : ofPlan m rows k
  · obtain ⟨j, rfl⟩ : ∃ j : Nat, k = (j : Int) := ⟨k.toNat, by have := hp.2; omega⟩
    have h36 : n ≤ 36 := by have := hp.1.2.1; have := HL.out; omega
    have HR := hide (show ∀ r ∈ rows, j < r.length from fun r hr => by have := plan_row hp.1 hr; have := hp.2; omega)
    have HP := hide hp
    have HF := hide (show longest homeAt m rows (j : Int) = (runs (homeAt j) rows n).1 by rw [longest, if_pos hp, HL.out, Int.toNat_natCast])
    clear hp
    go_enter Try.func58, Try.ntmps58
    go_wp2_with (first | (go_at_call 123; refine (isOfPlan_any _ _ _ _ rows _ _ hm HI.out).mono ?_; rw [decide_eq_true HP.out]; rintro e w1 ⟨rfl, hE1⟩; have hbx := (Ext.box1 hE1).1) | (go_at_call 126; refine (longestRun_any _ _ (homeAt j) EG.out _ _ _ rows _ (HI.out.ext hE1) h36 (stay_pred rows j _ _ hbx HR.out)).mono ?_; rintro e w2 ⟨rfl, hE2⟩))
    go_ret
    exact ⟨ret_int HF.out.symm, (HE0.out.trans hE1).trans hE2⟩
  · have HP := hide hp
    have HF := hide (show longest homeAt m rows k = -1 by rw [longest, if_neg hp])
    clear hp
    go_enter Try.func58, Try.ntmps58
    go_wp2_with (first | (go_at_call 123; refine (isOfPlan_any _ _ _ _ rows _ _ hm HI.out).mono ?_; rw [decide_eq_false HP.out]; rintro e w1 ⟨rfl, hE1⟩))
    go_ret
    exact ⟨ret_int HF.out.symm, HE0.out.trans hE1⟩
-- LongestTour closure
theorem tour_pred (rows : List (List Int)) (k : Nat) (w : World) (a : Nat) (ha : w.cell? ⟨a, 0, none⟩ = some (.int .i64 (k : Int))) (hk : ∀ r ∈ rows, k < r.length) :
    PredR 128 #[.pointer (some ⟨a, 0, none⟩)] (awayAt k) rows w := by
  intro W B d r hr hi hE
  have ha' := hE.get ha
  have hkr := hk r hr
  have hrd := hi.le
  have hrm := hi.rd.max
  obtain ⟨b, off, x, rfl, hb, hx, wx, hc⟩ := hi.get hkr
  have HF := hide (show awayAt k r = decide (x < 0) by simp [awayAt, List.getD, hx])
  clear hx hi ha hE hk
  go_enter Try.func128, Try.ntmps128
  go_wp2
  go_ret
  exact ⟨ret_bool HF.out.symm, Ext.refl _⟩
theorem iLongestTour_any (m : Int) (A : Option Addr) (n c : Nat) (rows : List (List Int)) (k : Int) (w : World) (hm : I64 m) (hk : I64 k) (h : Grid w A n c rows) :
    Calls Try.prog 59 #[.int .i64 m, .slice A n c, .int .i64 k] w fun e w' => e = .returned (.int .i64 (longest awayAt m rows k)) ∧ Ext w w' := by
  have HL := hide h.len
  have HE0 := hide ((Ext.refl w).alloc (.cells #[.int .i64 k] 3))
  have HI := hide (h.ext HE0.out); clear h
  have eg : Enters Try.prog 128 := enters_of Try.func128 (by kernel_rfl) rfl
  have EG := hide eg; clear eg
  by_cases hp : ofPlan m rows k
  · obtain ⟨j, rfl⟩ : ∃ j : Nat, k = (j : Int) := ⟨k.toNat, by have := hp.2; omega⟩
    have h36 : n ≤ 36 := by have := hp.1.2.1; have := HL.out; omega
    have HR := hide (show ∀ r ∈ rows, j < r.length from fun r hr => by have := plan_row hp.1 hr; have := hp.2; omega)
    have HP := hide hp
    have HF := hide (show longest awayAt m rows (j : Int) = (runs (awayAt j) rows n).1 by rw [longest, if_pos hp, HL.out, Int.toNat_natCast])
    clear hp
    go_enter Try.func59, Try.ntmps59
    go_wp2_with (first | (go_at_call 123; refine (isOfPlan_any _ _ _ _ rows _ _ hm HI.out).mono ?_; rw [decide_eq_true HP.out]; rintro e w1 ⟨rfl, hE1⟩; have hbx := (Ext.box1 hE1).1) | (go_at_call 126; refine (longestRun_any _ _ (awayAt j) EG.out _ _ _ rows _ (HI.out.ext hE1) h36 (tour_pred rows j _ _ hbx HR.out)).mono ?_; rintro e w2 ⟨rfl, hE2⟩))
    go_ret
    exact ⟨ret_int HF.out.symm, (HE0.out.trans hE1).trans hE2⟩
  · have HP := hide hp
    have HF := hide (show longest awayAt m rows k = -1 by rw [longest, if_neg hp])
    clear hp
    go_enter Try.func59, Try.ntmps59
    go_wp2_with (first | (go_at_call 123; refine (isOfPlan_any _ _ _ _ rows _ _ hm HI.out).mono ?_; rw [decide_eq_false HP.out]; rintro e w1 ⟨rfl, hE1⟩))
    go_ret
    exact ⟨ret_int HF.out.symm, HE0.out.trans hE1⟩

end Go.Proofs.Ytbaljgdepicigaa
