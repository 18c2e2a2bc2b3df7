/-
  Contracts of the functions on runs of rounds at home and away.
-/
import Derived.Test.YtgaejidkmnbkiaaBase
import Derived.Test.YtgaejidkmnbkiaaMathA
import Derived.Test.YtgaejidkmnbkiaaMathD
import Derived.Test.YtgaejidkmnbkiaaLib
import Derived.Test.YtgaejidkmnbkiaaAid
import Derived.Test.YtgaejidkmnbkiaaGrid
import Derived.Test.YtgaejidkmnbkiaaLibF
import Derived.Test.YtgaejidkmnbkiaaMathT
import Derived.Test.YtgaejidkmnbkiaaDist
import Derived.Test.YtgaejidkmnbkiaaPlan
import Derived.Test.YtgaejidkmnbkiaaPlanB
namespace Go.Proofs.Ytgaejidkmnbkiaa
open Go.RowKit
set_option linter.unusedVariables false

-- LongestStay closure
theorem stay_pred (rows : List (List Int)) (k : Nat) (w : World) (a : Nat) (ha : w.cell? ⟨a, 0, none⟩ = some (.int .i64 (k : Int))) (hk : ∀ r ∈ rows, k < r.length) :
    PredR 44 #[.pointer (some ⟨a, 0, none⟩)] (homeAt k) rows w := by
  intro W B d r hr hi hE
  have ha' := hE.get ha
  have hkr := hk r hr
  have hrd := hi.le
  have hrm := hi.rd.max
  obtain ⟨b, off, x, rfl, hb, hx, wx, hc⟩ := hi.get hkr
  have HF := hide (show homeAt k r = decide (0 < x) by simp [homeAt, List.getD, hx])
  clear hx hi ha hE hk
  go_enter Try.func44, Try.ntmps44
  go_wp2
  go_ret
  exact ⟨ret_bool HF.out.symm, Ext.refl _⟩
theorem iLongestStay_any (m : Int) (A : Option Addr) (n c : Nat) (rows : List (List Int)) (k : Int) (w : World) (hm : I64 m) (hk : I64 k) (h : Grid w A n c rows) :
    Calls Try.prog 17 #[.int .i64 m, .slice A n c, .int .i64 k] w fun e w' => e = .returned (.int .i64 (longest homeAt m rows k)) ∧ Ext w w' := by
  have HL := hide h.len
  have HE0 := hide ((Ext.refl w).alloc (.cells #[.int .i64 k] 3))
  have HI := hide (h.ext HE0.out); clear h
  have eg : Enters Try.prog 44 := enters_of Try.func44 (by kernel_rfl) rfl
  have EG := hide eg; clear eg
  by_cases hp : ofPlan m rows k
  · obtain ⟨j, rfl⟩ : ∃ j : Nat, k = (j : Int) := ⟨k.toNat, by have := hp.2; omega⟩
    have h36 : n ≤ 36 := by have := hp.1.2.1; have := HL.out; omega
    have HR := hide (show ∀ r ∈ rows, j < r.length from fun r hr => by have := plan_row hp.1 hr; have := hp.2; omega)
    have HP := hide hp
    have HF := hide (show longest homeAt m rows (j : Int) = (runs (homeAt j) rows n).1 by rw [longest, if_pos hp, HL.out, Int.toNat_natCast])
    clear hp
    go_enter Try.func17, Try.ntmps17
    go_wp2_with (first | (go_at_call 42; refine (isOfPlan_any _ _ _ _ rows _ _ hm HI.out).mono ?_; rw [decide_eq_true HP.out]; rintro e w1 ⟨rfl, hE1⟩; have hbx := (Ext.box1 hE1).1) | (go_at_call 43; refine (longestRun_any _ _ (homeAt j) EG.out _ _ _ rows _ (HI.out.ext hE1) h36 (stay_pred rows j _ _ hbx HR.out)).mono ?_; rintro e w2 ⟨rfl, hE2⟩))
    go_ret
    exact ⟨ret_int HF.out.symm, (HE0.out.trans hE1).trans hE2⟩
  · have HP := hide hp
    have HF := hide (show longest homeAt m rows k = -1 by rw [longest, if_neg hp])
    clear hp
    go_enter Try.func17, Try.ntmps17
    go_wp2_with (first | (go_at_call 42; refine (isOfPlan_any _ _ _ _ rows _ _ hm HI.out).mono ?_; rw [decide_eq_false HP.out]; rintro e w1 ⟨rfl, hE1⟩))
    go_ret
    exact ⟨ret_int HF.out.symm, HE0.out.trans hE1⟩
-- LongestTour closure
theorem tour_pred (rows : List (List Int)) (k : Nat) (w : World) (a : Nat) (ha : w.cell? ⟨a, 0, none⟩ = some (.int .i64 (k : Int))) (hk : ∀ r ∈ rows, k < r.length) :
    PredR 45 #[.pointer (some ⟨a, 0, none⟩)] (awayAt k) rows w := by
  intro W B d r hr hi hE
  have ha' := hE.get ha
  have hkr := hk r hr
  have hrd := hi.le
  have hrm := hi.rd.max
  obtain ⟨b, off, x, rfl, hb, hx, wx, hc⟩ := hi.get hkr
  have HF := hide (show awayAt k r = decide (x < 0) by simp [awayAt, List.getD, hx])
  clear hx hi ha hE hk
  go_enter Try.func45, Try.ntmps45
  go_wp2
  go_ret
  exact ⟨ret_bool HF.out.symm, Ext.refl _⟩
theorem iLongestTour_any (m : Int) (A : Option Addr) (n c : Nat) (rows : List (List Int)) (k : Int) (w : World) (hm : I64 m) (hk : I64 k) (h : Grid w A n c rows) :
    Calls Try.prog 19 #[.int .i64 m, .slice A n c, .int .i64 k] w fun e w' => e = .returned (.int .i64 (longest awayAt m rows k)) ∧ Ext w w' := by
  have HL := hide h.len
  have HE0 := hide ((Ext.refl w).alloc (.cells #[.int .i64 k] 3))
  have HI := hide (h.ext HE0.out); clear h
  have eg : Enters Try.prog 45 := enters_of Try.func45 (by kernel_rfl) rfl
  have EG := hide eg; clear eg
  by_cases hp : ofPlan m rows k
  · obtain ⟨j, rfl⟩ : ∃ j : Nat, k = (j : Int) := ⟨k.toNat, by have := hp.2; omega⟩
    have h36 : n ≤ 36 := by have := hp.1.2.1; have := HL.out; omega
    have HR := hide (show ∀ r ∈ rows, j < r.length from fun r hr => by have := plan_row hp.1 hr; have := hp.2; omega)
    have HP := hide hp
    have HF := hide (show longest awayAt m rows (j : Int) = (runs (awayAt j) rows n).1 by rw [longest, if_pos hp, HL.out, Int.toNat_natCast])
    clear hp
    go_enter Try.func19, Try.ntmps19
    go_wp2_with (first | (go_at_call 42; refine (isOfPlan_any _ _ _ _ rows _ _ hm HI.out).mono ?_; rw [decide_eq_true HP.out]; rintro e w1 ⟨rfl, hE1⟩; have hbx := (Ext.box1 hE1).1) | (go_at_call 43; refine (longestRun_any _ _ (awayAt j) EG.out _ _ _ rows _ (HI.out.ext hE1) h36 (tour_pred rows j _ _ hbx HR.out)).mono ?_; rintro e w2 ⟨rfl, hE2⟩))
    go_ret
    exact ⟨ret_int HF.out.symm, (HE0.out.trans hE1).trans hE2⟩
  · have HP := hide hp
    have HF := hide (show longest awayAt m rows k = -1 by rw [longest, if_neg hp])
    clear hp
    go_enter Try.func19, Try.ntmps19
    go_wp2_with (first | (go_at_call 42; refine (isOfPlan_any _ _ _ _ rows _ _ hm HI.out).mono ?_; rw [decide_eq_false HP.out]; rintro e w1 ⟨rfl, hE1⟩))
    go_ret
    exact ⟨ret_int HF.out.symm, HE0.out.trans hE1⟩
-- spec.l19Longest
def sideAt (k : Nat) (home : Bool) (r : List Int) : Bool := decide (0 < r.getD k 0) == home
theorem sLongest_any (A : Option Addr) (n c : Nat) (rows : List (List Int)) (j : Nat) (home : Bool) (w : World) (h : Grid w A n c rows) (hn : n ≤ 36) (hj : ∀ r ∈ rows, j < r.length) :
    Calls Try.prog 41 #[.slice A n c, .int .i64 (j : Int), .bool home] w fun e w' => e = .returned (.int .i64 (runs (sideAt j home) rows n).1) ∧ w = w' := by
  have hle := h.le
  have hmx := h.max
  have HL := hide h.len
  have HJ := hide hj; clear hj
  go_enter Try.func41, Try.ntmps41
  go_wp2
  go_loop [7, 8, 13] (fun l r i => ∃ k : Nat, k ≤ n ∧ i = .int .i64 k ∧ l = .int .i64 (runs (sideAt j home) rows k).1 ∧ r = .int .i64 (runs (sideAt j home) rows k).2) (fun _ _ i => n - (intOf i).toNat)
  case atStart => exact ⟨0, Nat.zero_le _, rfl, rfl, rfl⟩
  case round =>
    obtain ⟨k, hk, rfl, rfl, rfl⟩ := hrel
    have HB := hide (runs_bound (sideAt j home) rows k)
    by_cases hlt : k < n
    · obtain ⟨b, off, B, d, r, rfl, hb, hx, hc, hi⟩ := h.get hlt
      have hjr := HJ.out r (List.mem_of_getElem? hx)
      have hrd := hi.le
      have hrm := hi.rd.max
      obtain ⟨b1, o1, x, rfl, hb1, hx1, wx, hc1⟩ := hi.get hjr
      have hbd := HB.out
      have hpx0 : sideAt j home r = (decide (0 < x) == home) := by simp [sideAt, List.getD, hx1]
      clear hi hx1
      cases hpx : (decide (0 < x) == home) with
      | true =>
        have HR := hide (runs_yes hx (hpx0.trans hpx)); clear hx hpx0
        generalize runs (sideAt j home) rows k = s at *
        obtain ⟨l, u⟩ := s
        simp only at hbd HR
        go_wp2
        go_round
        case rel => exact ⟨k + 1, by omega, by go_num, by rw [HR.out]; exact congrArg _ (by first | omega | (split <;> omega)), by rw [HR.out]⟩
        case measure => (simp [intOf] <;> omega)
      | false =>
        have HR := hide (runs_no hx (hpx0.trans hpx)); clear hx hpx0
        generalize runs (sideAt j home) rows k = s at *
        obtain ⟨l, u⟩ := s
        simp only at hbd HR
        go_wp2
        go_round
        case rel => exact ⟨k + 1, by omega, by go_num, by rw [HR.out]; exact congrArg _ (by first | omega | (split <;> omega)), by rw [HR.out]⟩
        case measure => (simp [intOf] <;> omega)
    · have hke : k = n := by omega
      subst hke
      go_wp2
      go_ret
      exact ⟨rfl, rfl⟩
-- spec.LongestStay
theorem sLongestStay_any (m : Int) (A : Option Addr) (n c : Nat) (rows : List (List Int)) (k : Int) (w : World) (hm : I64 m) (h : Grid w A n c rows) :
    Calls Try.prog 16 #[.int .i64 m, .slice A n c, .int .i64 k] w fun e w' => e = .returned (.int .i64 (longest homeAt m rows k)) ∧ w = w' := by
  have HL := hide h.len
  have HI := hide h; clear h
  by_cases hp : planOk m rows
  · have hm10 : 2 ≤ m ∧ m ≤ 10 := hp.1.1
    have h36 : n ≤ 36 := by have := hp.2.1; have := HL.out; omega
    have HP := hide hp
    by_cases hk : 0 ≤ k ∧ k ≤ m - 1
    · obtain ⟨j, rfl⟩ : ∃ j : Nat, k = (j : Int) := ⟨k.toNat, by omega⟩
      have HR := hide (show ∀ r ∈ rows, j < r.length from fun r hr => by have := plan_row hp hr; omega)
      have HF := hide (show longest homeAt m rows (j : Int) = (runs (sideAt j true) rows n).1 by
        rw [longest, if_pos ⟨hp, hk⟩, HL.out, Int.toNat_natCast, runs_congr (p := homeAt j) (q := sideAt j true) (by rw [HL.out]; exact Nat.le_refl _) (fun r hr => by simp [homeAt, sideAt])])
      clear hp
      go_enter Try.func16, Try.ntmps16
      go_wp2_with (first | (go_at_call 39; refine (sPlanOk_any _ _ _ _ rows _ hm HI.out).mono ?_; rw [decide_eq_true HP.out]; rintro e w' ⟨rfl, rfl⟩) | (go_at_call 40; refine (l01In_any _ _ _ _).mono ?_; rintro e w' ⟨rfl, rfl⟩) | (go_at_call 41; refine (sLongest_any _ _ _ rows j true _ HI.out h36 HR.out).mono ?_; rintro e w' ⟨rfl, rfl⟩))
      go_ret
      exact ⟨ret_int HF.out.symm, rfl⟩
    · have HF := hide (show longest homeAt m rows k = -1 by rw [longest, if_neg (fun hh => hk hh.2)])
      clear hp
      go_enter Try.func16, Try.ntmps16
      go_wp2_with (first | (go_at_call 39; refine (sPlanOk_any _ _ _ _ rows _ hm HI.out).mono ?_; rw [decide_eq_true HP.out]; rintro e w' ⟨rfl, rfl⟩) | (go_at_call 40; refine (l01In_any _ _ _ _).mono ?_; rw [decide_eq_false hk]; rintro e w' ⟨rfl, rfl⟩))
      go_ret
      exact ⟨ret_int HF.out.symm, rfl⟩
  · have HP := hide hp
    have HF := hide (show longest homeAt m rows k = -1 by rw [longest, if_neg (fun hh => hp hh.1)])
    clear hp
    go_enter Try.func16, Try.ntmps16
    go_wp2_with (first | (go_at_call 39; refine (sPlanOk_any _ _ _ _ rows _ hm HI.out).mono ?_; rw [decide_eq_false HP.out]; rintro e w' ⟨rfl, rfl⟩))
    go_ret
    exact ⟨ret_int HF.out.symm, rfl⟩
-- law LongestStay
theorem law_LongestStay (a0 : Int) (A1 : Option Addr) (n1 c1 : Nat) (xs1 : List (List Int)) (a2 : Int) (w : World) (hi0 : I64 a0) (h1 : Grid w A1 n1 c1 xs1) (hi2 : I64 a2) :
    Calls Try.prog 4 #[.int .i64 a0, .slice A1 n1 c1, .int .i64 a2] w fun e w' => e = .returned (.bool true) ∧ Ext w w' := by
  have hl1 := h1.len; subst hl1
  have HI1 := hide h1; clear h1
  by_cases hs1 : (bulk xs1 : Int) ≤ 1048576
  · skip
    have hb1 : bulk xs1 ≤ 1048576 := by omega
    have hbt1 : tot xs1 ≤ 1048576 := by have h := hb1; unfold bulk at h; omega
    go_enter Try.func4, Try.ntmps4
    have HSZ := hide (szLeft_yes (n := bulk xs1) (left := 1048576) (by omega))
    go_wp2_with fail
    refine (szIntSS_any _ _ _ xs1 _ _ HI1.out (by omega) (by omega)).mono ?_; rw [HSZ.out]; rintro e w' ⟨rfl, rfl⟩
    clear HSZ
    go_wp2_with fail
    refine (toIntSS_any _ _ _ xs1 _ HI1.out hb1).mono ?_; rintro e w1 ⟨At1, ct1, rfl, ho, hE⟩
    have hz1 := hE.size
    have HE := hide hE
    clear hE
    have HOt1 := hide ho; clear ho
    go_wp2_with fail
    refine (sLongestStay_any a0 _ _ _ xs1 a2 _ hi0 HOt1.out.grid).mono ?_; rintro e w' ⟨rfl, rfl⟩
    go_wp2_with fail
    refine (toIntSS_any _ _ _ xs1 _ (HI1.out.ext HE.out) hb1).mono ?_; rintro e w2 ⟨Ax1, cx1, rfl, ho, hE⟩
    replace HOt1 := hide (HOt1.out.ext hE)
    have hz2 := hE.size
    replace HE := hide (HE.out.trans hE)
    clear hE
    have HOx1 := hide ho; clear ho
    go_wp2_with fail
    refine (iLongestStay_any a0 _ _ _ xs1 a2 _ hi0 hi2 HOx1.out.grid).mono ?_; rintro e w3 ⟨rfl, hE⟩
    replace HOt1 := hide (HOt1.out.ext hE)
    replace HOx1 := hide (HOx1.out.ext hE)
    have hz3 := hE.size
    replace HE := hide (HE.out.trans hE)
    clear hE
    go_wp2_with fail
    refine (toIntSS_any _ _ _ xs1 _ (HI1.out.ext HE.out) hb1).mono ?_; rintro e w4 ⟨At3, ct3, rfl, ho, hE⟩
    replace HOt1 := hide (HOt1.out.ext hE)
    replace HOx1 := hide (HOx1.out.ext hE)
    have hz4 := hE.size
    replace HE := hide (HE.out.trans hE)
    clear hE
    have HOt3 := hide ho; clear ho
    go_wp2_with fail
    refine (eqIntSS_any _ _ _ (xs1) _ _ _ (xs1) _ HOx1.out.grid HOt3.out.grid).mono ?_; rintro e w5 ⟨rfl, hE⟩
    replace HOt1 := hide (HOt1.out.ext hE)
    replace HOx1 := hide (HOx1.out.ext hE)
    replace HOt3 := hide (HOt3.out.ext hE)
    have hz5 := hE.size
    replace HE := hide (HE.out.trans hE)
    clear hE
    go_wp2
    go_ret
    exact ⟨by first | rfl | simp, HE.out⟩
  · go_enter Try.func4, Try.ntmps4
    have HSZ := hide (szLeft_no (n := bulk xs1) (left := 1048576) (by omega))
    go_wp2_with fail
    refine (szIntSS_any _ _ _ xs1 _ _ HI1.out (by omega) (by omega)).mono ?_; rw [HSZ.out]; rintro e w' ⟨rfl, rfl⟩
    clear HSZ
    go_wp2
    go_ret
    exact ⟨rfl, Ext.refl _⟩
-- spec.LongestTour
theorem sLongestTour_any (m : Int) (A : Option Addr) (n c : Nat) (rows : List (List Int)) (k : Int) (w : World) (hm : I64 m) (h : Grid w A n c rows) :
    Calls Try.prog 18 #[.int .i64 m, .slice A n c, .int .i64 k] w fun e w' => e = .returned (.int .i64 (longest awayAt m rows k)) ∧ w = w' := by
  have HL := hide h.len
  have HI := hide h; clear h
  by_cases hp : planOk m rows
  · have hm10 : 2 ≤ m ∧ m ≤ 10 := hp.1.1
    have h36 : n ≤ 36 := by have := hp.2.1; have := HL.out; omega
    have HP := hide hp
    by_cases hk : 0 ≤ k ∧ k ≤ m - 1
    · obtain ⟨j, rfl⟩ : ∃ j : Nat, k = (j : Int) := ⟨k.toNat, by omega⟩
      have HR := hide (show ∀ r ∈ rows, j < r.length from fun r hr => by have := plan_row hp hr; omega)
      have HF := hide (show longest awayAt m rows (j : Int) = (runs (sideAt j false) rows n).1 by
        rw [longest, if_pos ⟨hp, hk⟩, HL.out, Int.toNat_natCast, runs_congr (p := awayAt j) (q := sideAt j false) (by rw [HL.out]; exact Nat.le_refl _) (fun r hr => by have h0 := ((hp.2.2 r hr).2.1 (r.getD j 0) (by rw [List.getD, List.getElem?_eq_getElem (HR.out r hr)]; exact List.getElem_mem _)).1; rw [Bool.eq_iff_iff]; simp only [awayAt, sideAt, decide_eq_true_eq, beq_iff_eq, decide_eq_false_iff_not]; omega)])
      clear hp
      go_enter Try.func18, Try.ntmps18
      go_wp2_with (first | (go_at_call 39; refine (sPlanOk_any _ _ _ _ rows _ hm HI.out).mono ?_; rw [decide_eq_true HP.out]; rintro e w' ⟨rfl, rfl⟩) | (go_at_call 40; refine (l01In_any _ _ _ _).mono ?_; rintro e w' ⟨rfl, rfl⟩) | (go_at_call 41; refine (sLongest_any _ _ _ rows j false _ HI.out h36 HR.out).mono ?_; rintro e w' ⟨rfl, rfl⟩))
      go_ret
      exact ⟨ret_int HF.out.symm, rfl⟩
    · have HF := hide (show longest awayAt m rows k = -1 by rw [longest, if_neg (fun hh => hk hh.2)])
      clear hp
      go_enter Try.func18, Try.ntmps18
      go_wp2_with (first | (go_at_call 39; refine (sPlanOk_any _ _ _ _ rows _ hm HI.out).mono ?_; rw [decide_eq_true HP.out]; rintro e w' ⟨rfl, rfl⟩) | (go_at_call 40; refine (l01In_any _ _ _ _).mono ?_; rw [decide_eq_false hk]; rintro e w' ⟨rfl, rfl⟩))
      go_ret
      exact ⟨ret_int HF.out.symm, rfl⟩
  · have HP := hide hp
    have HF := hide (show longest awayAt m rows k = -1 by rw [longest, if_neg (fun hh => hp hh.1)])
    clear hp
    go_enter Try.func18, Try.ntmps18
    go_wp2_with (first | (go_at_call 39; refine (sPlanOk_any _ _ _ _ rows _ hm HI.out).mono ?_; rw [decide_eq_false HP.out]; rintro e w' ⟨rfl, rfl⟩))
    go_ret
    exact ⟨ret_int HF.out.symm, rfl⟩
-- law LongestTour
theorem law_LongestTour (a0 : Int) (A1 : Option Addr) (n1 c1 : Nat) (xs1 : List (List Int)) (a2 : Int) (w : World) (hi0 : I64 a0) (h1 : Grid w A1 n1 c1 xs1) (hi2 : I64 a2) :
    Calls Try.prog 5 #[.int .i64 a0, .slice A1 n1 c1, .int .i64 a2] w fun e w' => e = .returned (.bool true) ∧ Ext w w' := by
  have hl1 := h1.len; subst hl1
  have HI1 := hide h1; clear h1
  by_cases hs1 : (bulk xs1 : Int) ≤ 1048576
  · skip
    have hb1 : bulk xs1 ≤ 1048576 := by omega
    have hbt1 : tot xs1 ≤ 1048576 := by have h := hb1; unfold bulk at h; omega
    go_enter Try.func5, Try.ntmps5
    have HSZ := hide (szLeft_yes (n := bulk xs1) (left := 1048576) (by omega))
    go_wp2_with fail
    refine (szIntSS_any _ _ _ xs1 _ _ HI1.out (by omega) (by omega)).mono ?_; rw [HSZ.out]; rintro e w' ⟨rfl, rfl⟩
    clear HSZ
    go_wp2_with fail
    refine (toIntSS_any _ _ _ xs1 _ HI1.out hb1).mono ?_; rintro e w1 ⟨At1, ct1, rfl, ho, hE⟩
    have hz1 := hE.size
    have HE := hide hE
    clear hE
    have HOt1 := hide ho; clear ho
    go_wp2_with fail
    refine (sLongestTour_any a0 _ _ _ xs1 a2 _ hi0 HOt1.out.grid).mono ?_; rintro e w' ⟨rfl, rfl⟩
    go_wp2_with fail
    refine (toIntSS_any _ _ _ xs1 _ (HI1.out.ext HE.out) hb1).mono ?_; rintro e w2 ⟨Ax1, cx1, rfl, ho, hE⟩
    replace HOt1 := hide (HOt1.out.ext hE)
    have hz2 := hE.size
    replace HE := hide (HE.out.trans hE)
    clear hE
    have HOx1 := hide ho; clear ho
    go_wp2_with fail
    refine (iLongestTour_any a0 _ _ _ xs1 a2 _ hi0 hi2 HOx1.out.grid).mono ?_; rintro e w3 ⟨rfl, hE⟩
    replace HOt1 := hide (HOt1.out.ext hE)
    replace HOx1 := hide (HOx1.out.ext hE)
    have hz3 := hE.size
    replace HE := hide (HE.out.trans hE)
    clear hE
    go_wp2_with fail
    refine (toIntSS_any _ _ _ xs1 _ (HI1.out.ext HE.out) hb1).mono ?_; rintro e w4 ⟨At3, ct3, rfl, ho, hE⟩
    replace HOt1 := hide (HOt1.out.ext hE)
    replace HOx1 := hide (HOx1.out.ext hE)
    have hz4 := hE.size
    replace HE := hide (HE.out.trans hE)
    clear hE
    have HOt3 := hide ho; clear ho
    go_wp2_with fail
    refine (eqIntSS_any _ _ _ (xs1) _ _ _ (xs1) _ HOx1.out.grid HOt3.out.grid).mono ?_; rintro e w5 ⟨rfl, hE⟩
    replace HOt1 := hide (HOt1.out.ext hE)
    replace HOx1 := hide (HOx1.out.ext hE)
    replace HOt3 := hide (HOt3.out.ext hE)
    have hz5 := hE.size
    replace HE := hide (HE.out.trans hE)
    clear hE
    go_wp2
    go_ret
    exact ⟨by first | rfl | simp, HE.out⟩
  · go_enter Try.func5, Try.ntmps5
    have HSZ := hide (szLeft_no (n := bulk xs1) (left := 1048576) (by omega))
    go_wp2_with fail
    refine (szIntSS_any _ _ _ xs1 _ _ HI1.out (by omega) (by omega)).mono ?_; rw [HSZ.out]; rintro e w' ⟨rfl, rfl⟩
    clear HSZ
    go_wp2
    go_ret
    exact ⟨rfl, Ext.refl _⟩

end Go.Proofs.Ytgaejidkmnbkiaa
