/-
  Contracts of the functions on days of games: games of a day, courts, moves.
-/
import Derived.Deep.RegionLaw
import Derived.Test.YtfmdifhdmanmfaaBase
import Derived.Test.YtfmdifhdmanmfaaMathA
import Derived.Test.YtfmdifhdmanmfaaMathD
import Derived.Test.YtfmdifhdmanmfaaLib
import Derived.Test.YtfmdifhdmanmfaaAid
import Derived.Test.YtfmdifhdmanmfaaGrid
import Derived.Test.YtfmdifhdmanmfaaLibF
import Derived.Test.YtfmdifhdmanmfaaDays
import Derived.Test.YtfmdifhdmanmfaaDaysB
namespace Go.Proofs.Ytfmdifhdmanmfaa
open Go.RowKit
set_option linter.unusedVariables false

-- impl.MoveGame
theorem moved_yes {rows : List (List Int)} {days : List Int} {i day : Int} (h : mayMove rows days i day) : moved rows days i day = days.set i.toNat day ∧ decide (mayMove rows days i day) = true := ⟨if_pos h, decide_eq_true h⟩
theorem moved_no {rows : List (List Int)} {days : List Int} {i day : Int} (h : ¬ mayMove rows days i day) : moved rows days i day = [] ∧ decide (mayMove rows days i day) = false := ⟨if_neg h, decide_eq_false h⟩
theorem iMoveGame_any (A : Option Addr) (n c : Nat) (rows : List (List Int)) (A2 : Option Addr) (n2 c2 : Nat) (days : List Int) (i day : Int) (w : World) (h : Grid w A n c rows) (h2 : Ints w A2 n2 c2 days) (hwd : I64 day) :
    Calls Try.prog 29 #[.slice A n c, .slice A2 n2 c2, .int .i64 i, .int .i64 day] w (RetIB w (moved rows days i day) (decide (mayMove rows days i day))) := by
  have HL := hide h.len
  have HL2 := hide h2.len
  have HI := hide h
  have HI2 := hide h2
  have hle := h.le
  have hmx := h.max
  have hle2 := h2.le
  have hmx2 := h2.max
  have HWD := hide hwd; clear hwd h h2
  by_cases hok : isSchedule rows days
  · have hn18 : n ≤ 18 := by have := HL.out; have := hok.1.1; omega
    have hnn : n2 = n := by have := hok.2.1; have := HL.out; have := HL2.out; omega
    subst hnn
    have HK := hide hok
    by_cases hin : 0 ≤ i ∧ i ≤ (n2 : Int) - 1
    · obtain ⟨k, rfl⟩ : ∃ k : Nat, i = (k : Int) := ⟨i.toNat, by omega⟩
      have hkn : k < n2 := by omega
      clear hok
      by_cases hok2 : isSchedule rows (days.set k day)
      · have HF := hide (moved_yes (rows := rows) (days := days) (i := (k : Int)) (day := day) ⟨HK.out, by have := HL.out; omega, by simpa using hok2⟩)
        have HK2 := hide hok2; clear hok2
        go_enter Try.func29, Try.ntmps29
        go_wp2_with (first | (go_at_call 24; have hready := HO; refine (iIsSchedule_any _ _ _ rows _ _ _ (days.set k day) _ (HI.out.ext HE.out) HO.out.ints).mono ?_; rw [decide_eq_true HK2.out]; rintro e w3 ⟨rfl, hE3⟩) | (go_at_call 24; refine (iIsSchedule_any _ _ _ rows _ _ _ days _ HI.out HI2.out).mono ?_; rw [decide_eq_true HK.out]; rintro e w1 ⟨rfl, hE1⟩) | (go_at_call 50; refine (within_any _ _ _ _).mono ?_; rintro e w' ⟨rfl, rfl⟩) | (go_at_call 51; refine (Clone_any _ _ _ days _ (HI2.out.ext hE1) (by omega)).mono ?_; rintro e w2 ⟨B, d, rfl, hoB, hEB⟩; have hkd : k < days.length := (by have := HL2.out; omega); obtain ⟨b, off, x, rfl, hbb, hbl, hx, wx, hc, hf⟩ := hoB.get hkd; have HO := hide (hoB.store rfl hkd HWD.out); have HE := hide ((hE1.trans hEB).setCell (p := ⟨b, off + k, none⟩) (by have := hE1.size; show w.heap.size ≤ b; omega) (.int .i64 day)); clear hx hoB wx))
        go_ret2
        rw [HF.out.1, HF.out.2]
        refine RetIB.mk rfl rfl ?_ (HE.out.trans hE3)
        have := (HO.out.mono (base' := w.heap.size) hE1.size).ext hE3
        simpa using this
      · have HF := hide (moved_no (rows := rows) (days := days) (i := (k : Int)) (day := day) (fun hm => hok2 (by simpa using hm.2.2)))
        have HK2 := hide hok2; clear hok2
        go_enter Try.func29, Try.ntmps29
        go_wp2_with (first | (go_at_call 24; have hready := HO; refine (iIsSchedule_any _ _ _ rows _ _ _ (days.set k day) _ (HI.out.ext HE.out) HO.out.ints).mono ?_; rw [decide_eq_false HK2.out]; rintro e w3 ⟨rfl, hE3⟩) | (go_at_call 24; refine (iIsSchedule_any _ _ _ rows _ _ _ days _ HI.out HI2.out).mono ?_; rw [decide_eq_true HK.out]; rintro e w1 ⟨rfl, hE1⟩) | (go_at_call 50; refine (within_any _ _ _ _).mono ?_; rintro e w' ⟨rfl, rfl⟩) | (go_at_call 51; refine (Clone_any _ _ _ days _ (HI2.out.ext hE1) (by omega)).mono ?_; rintro e w2 ⟨B, d, rfl, hoB, hEB⟩; have hkd : k < days.length := (by have := HL2.out; omega); obtain ⟨b, off, x, rfl, hbb, hbl, hx, wx, hc, hf⟩ := hoB.get hkd; have HO := hide (hoB.store rfl hkd HWD.out); have HE := hide ((hE1.trans hEB).setCell (p := ⟨b, off + k, none⟩) (by have := hE1.size; show w.heap.size ≤ b; omega) (.int .i64 day)); clear hx hoB wx))
        go_ret2
        rw [HF.out.1, HF.out.2]
        exact RetIB.mk rfl rfl (OwI.nil _ _) (HE.out.trans hE3)
    · have HF := hide (moved_no (rows := rows) (days := days) (i := i) (day := day) (fun hm => hin (by have := hm.2.1; have := HL.out; omega)))
      go_enter Try.func29, Try.ntmps29
      go_wp2_with (first | (go_at_call 24; refine (iIsSchedule_any _ _ _ rows _ _ _ days _ HI.out HI2.out).mono ?_; rw [decide_eq_true HK.out]; rintro e w1 ⟨rfl, hE1⟩) | (go_at_call 50; refine (within_any _ _ _ _).mono ?_; rintro e w' ⟨rfl, rfl⟩))
      go_ret2
      rw [HF.out.1, HF.out.2]
      exact RetIB.mk rfl rfl (OwI.nil _ _) hE1
  · have HF := hide (moved_no (rows := rows) (days := days) (i := i) (day := day) (fun hm => hok hm.1))
    go_enter Try.func29, Try.ntmps29
    go_wp2_with (first | (go_at_call 24; refine (iIsSchedule_any _ _ _ rows _ _ _ days _ HI.out HI2.out).mono ?_; rw [decide_eq_false hok]; rintro e w1 ⟨rfl, hE1⟩))
    go_ret2
    rw [HF.out.1, HF.out.2]
    exact RetIB.mk rfl rfl (OwI.nil _ _) hE1
-- spec.MoveGame
theorem sMoveGame_any (A : Option Addr) (n c : Nat) (rows : List (List Int)) (A2 : Option Addr) (n2 c2 : Nat) (days : List Int) (i day : Int) (w : World) (h : Grid w A n c rows) (h2 : Ints w A2 n2 c2 days) (hwd : I64 day) :
    Calls Try.prog 28 #[.slice A n c, .slice A2 n2 c2, .int .i64 i, .int .i64 day] w (RetIB w (moved rows days i day) (decide (mayMove rows days i day))) := by
  have HL := hide h.len
  have HL2 := hide h2.len
  have HI := hide h
  have HI2 := hide h2
  have hle := h.le
  have hmx := h.max
  have hle2 := h2.le
  have hmx2 := h2.max
  have HWD := hide hwd; clear hwd h h2
  by_cases hok : isSchedule rows days
  · have hn18 : n ≤ 18 := by have := HL.out; have := hok.1.1; omega
    have hnn : n2 = n := by have := hok.2.1; have := HL.out; have := HL2.out; omega
    subst hnn
    have HK := hide hok
    by_cases hin : 0 ≤ i ∧ i ≤ (n2 : Int) - 1
    · obtain ⟨k, rfl⟩ : ∃ k : Nat, i = (k : Int) := ⟨i.toNat, by omega⟩
      have hkn : k < n2 := by omega
      clear hok
      by_cases hok2 : isSchedule rows (days.set k day)
      · have HF := hide (moved_yes (rows := rows) (days := days) (i := (k : Int)) (day := day) ⟨HK.out, by have := HL.out; omega, by simpa using hok2⟩)
        have HK2 := hide hok2; clear hok2
        go_enter Try.func28, Try.ntmps28
        go_wp2_with (first | (go_at_call 22; have hready := HO; refine (sIsSchedule_any _ _ _ rows _ _ _ (days.set k day) _ (HI.out.ext HE.out) HO.out.ints).mono ?_; rw [decide_eq_true HK2.out]; rintro e w3 ⟨rfl, hE3⟩) | (go_at_call 22; refine (sIsSchedule_any _ _ _ rows _ _ _ days _ HI.out HI2.out).mono ?_; rw [decide_eq_true HK.out]; rintro e w1 ⟨rfl, hE1⟩) | (go_at_call 44; refine (l01In_any _ _ _ _).mono ?_; rintro e w' ⟨rfl, rfl⟩) | (at_builtin; refine push_ints rfl (.tmp 23) (.tmp 24) rfl rfl (ints_lit0 w1 (base := w1.heap.size) (Nat.le_refl _)) A2 n2 c2 days rfl ((HI2.out.ext hE1).ext (Ext.one _ _)) (by omega) (by simp) ?_; intro B d w2 hoB hgB hatB; have hkd := hkn; have hEB : Ext w1 w2 := (Ext.one w1 _).grown hgB (fun k hk => by cases hk; exact Nat.le_refl _); simp only [List.nil_append, Nat.zero_add] at hoB; obtain ⟨b, off, x, rfl, hbb, hbl, hx, wx, hc, hf⟩ := hoB.get hkd; have HO := hide (hoB.store rfl hkd HWD.out); have HE := hide ((hE1.trans hEB).setCell (p := ⟨b, off + k, none⟩) (by have := hE1.size; show w.heap.size ≤ b; omega) (.int .i64 day)); clear hx hoB wx))
        go_ret2
        rw [HF.out.1, HF.out.2]
        refine RetIB.mk rfl rfl ?_ (HE.out.trans hE3)
        have := (HO.out.mono (base' := w.heap.size) hE1.size).ext hE3
        simpa using this
      · have HF := hide (moved_no (rows := rows) (days := days) (i := (k : Int)) (day := day) (fun hm => hok2 (by simpa using hm.2.2)))
        have HK2 := hide hok2; clear hok2
        go_enter Try.func28, Try.ntmps28
        go_wp2_with (first | (go_at_call 22; have hready := HO; refine (sIsSchedule_any _ _ _ rows _ _ _ (days.set k day) _ (HI.out.ext HE.out) HO.out.ints).mono ?_; rw [decide_eq_false HK2.out]; rintro e w3 ⟨rfl, hE3⟩) | (go_at_call 22; refine (sIsSchedule_any _ _ _ rows _ _ _ days _ HI.out HI2.out).mono ?_; rw [decide_eq_true HK.out]; rintro e w1 ⟨rfl, hE1⟩) | (go_at_call 44; refine (l01In_any _ _ _ _).mono ?_; rintro e w' ⟨rfl, rfl⟩) | (at_builtin; refine push_ints rfl (.tmp 23) (.tmp 24) rfl rfl (ints_lit0 w1 (base := w1.heap.size) (Nat.le_refl _)) A2 n2 c2 days rfl ((HI2.out.ext hE1).ext (Ext.one _ _)) (by omega) (by simp) ?_; intro B d w2 hoB hgB hatB; have hkd := hkn; have hEB : Ext w1 w2 := (Ext.one w1 _).grown hgB (fun k hk => by cases hk; exact Nat.le_refl _); simp only [List.nil_append, Nat.zero_add] at hoB; obtain ⟨b, off, x, rfl, hbb, hbl, hx, wx, hc, hf⟩ := hoB.get hkd; have HO := hide (hoB.store rfl hkd HWD.out); have HE := hide ((hE1.trans hEB).setCell (p := ⟨b, off + k, none⟩) (by have := hE1.size; show w.heap.size ≤ b; omega) (.int .i64 day)); clear hx hoB wx))
        go_ret2
        rw [HF.out.1, HF.out.2]
        exact RetIB.mk rfl rfl (OwI.nil _ _) (HE.out.trans hE3)
    · have HF := hide (moved_no (rows := rows) (days := days) (i := i) (day := day) (fun hm => hin (by have := hm.2.1; have := HL.out; omega)))
      go_enter Try.func28, Try.ntmps28
      go_wp2_with (first | (go_at_call 22; refine (sIsSchedule_any _ _ _ rows _ _ _ days _ HI.out HI2.out).mono ?_; rw [decide_eq_true HK.out]; rintro e w1 ⟨rfl, hE1⟩) | (go_at_call 44; refine (l01In_any _ _ _ _).mono ?_; rintro e w' ⟨rfl, rfl⟩))
      go_ret2
      rw [HF.out.1, HF.out.2]
      exact RetIB.mk rfl rfl (OwI.nil _ _) hE1
  · have HF := hide (moved_no (rows := rows) (days := days) (i := i) (day := day) (fun hm => hok hm.1))
    go_enter Try.func28, Try.ntmps28
    go_wp2_with (first | (go_at_call 22; refine (sIsSchedule_any _ _ _ rows _ _ _ days _ HI.out HI2.out).mono ?_; rw [decide_eq_false hok]; rintro e w1 ⟨rfl, hE1⟩))
    go_ret2
    rw [HF.out.1, HF.out.2]
    exact RetIB.mk rfl rfl (OwI.nil _ _) hE1
-- law MoveGame
theorem law_MoveGame (A0 : Option Addr) (n0 c0 : Nat) (xs0 : List (List Int)) (A1 : Option Addr) (n1 c1 : Nat) (xs1 : List Int) (a2 : Int) (a3 : Int) (w : World) (h0 : Grid w A0 n0 c0 xs0) (h1 : Ints w A1 n1 c1 xs1) (hi2 : I64 a2) (hi3 : I64 a3) :
    Calls Try.prog 8 #[.slice A0 n0 c0, .slice A1 n1 c1, .int .i64 a2, .int .i64 a3] w fun e w' => e = .returned (.bool true) ∧ Ext w w' := by
  have hl0 := h0.len; subst hl0
  have HI0 := hide h0; clear h0
  have hl1 := h1.len; subst hl1
  have HI1 := hide h1; clear h1
  by_cases hs1 : xs1.length ≤ 1048576
  · skip
    by_cases hs0 : (bulk xs0 : Int) ≤ 1048576
    · skip
      have hb0 : bulk xs0 ≤ 1048576 := by omega
      have hbt0 : tot xs0 ≤ 1048576 := by have h := hb0; unfold bulk at h; omega
      have hln := moved_len xs0 xs1 a2 a3
      go_enter Try.func8, Try.ntmps8
      have HSZ := hide (szLeft_yes (n := bulk xs0) (left := 1048576) (by omega))
      go_wp2_with fail
      refine (szIntSS_any _ _ _ xs0 _ _ HI0.out (by omega) (by omega)).mono ?_; rw [HSZ.out]; rintro e w' ⟨rfl, rfl⟩
      clear HSZ
      go_wp2_with fail
      refine (toIntSS_any _ _ _ xs0 _ HI0.out hb0).mono ?_; rintro e w1 ⟨At1, ct1, rfl, ho, hE⟩
      have hz1 := hE.size
      have HE := hide hE
      clear hE
      have HOt1 := hide ho; clear ho
      go_wp2_with fail
      refine (toIntS_any _ _ _ xs1 _ (HI1.out.ext HE.out) (by omega)).mono ?_; rintro e w2 ⟨At2, ct2, rfl, ho, hE⟩
      replace HOt1 := hide (HOt1.out.ext hE)
      have hz2 := hE.size
      replace HE := hide (HE.out.trans hE)
      clear hE
      have HOt2 := hide (InI.mk_ ho); clear ho
      go_wp2_with fail
      refine (sMoveGame_any _ _ _ xs0 _ _ _ xs1 a2 a3 _ HOt1.out.grid HOt2.out.ints hi3).mono ?_; rintro e w3 ⟨Aw0, cw0, rfl, ho0, hE⟩
      replace HOt1 := hide (HOt1.out.ext hE)
      replace HOt2 := hide (HOt2.out.ext hE)
      have hz3 := hE.size
      replace HE := hide (HE.out.trans hE)
      clear hE
      have HOw0 := hide (InI.mk_ ho0); clear ho0
      go_wp2_with fail
      refine (toIntSS_any _ _ _ xs0 _ (HI0.out.ext HE.out) hb0).mono ?_; rintro e w4 ⟨Ax0, cx0, rfl, ho, hE⟩
      replace HOt1 := hide (HOt1.out.ext hE)
      replace HOt2 := hide (HOt2.out.ext hE)
      replace HOw0 := hide (HOw0.out.ext hE)
      have hz4 := hE.size
      replace HE := hide (HE.out.trans hE)
      clear hE
      have HOx0 := hide ho; clear ho
      go_wp2_with fail
      refine (toIntS_any _ _ _ xs1 _ (HI1.out.ext HE.out) (by omega)).mono ?_; rintro e w5 ⟨Ax1, cx1, rfl, ho, hE⟩
      replace HOt1 := hide (HOt1.out.ext hE)
      replace HOt2 := hide (HOt2.out.ext hE)
      replace HOw0 := hide (HOw0.out.ext hE)
      replace HOx0 := hide (HOx0.out.ext hE)
      have hz5 := hE.size
      replace HE := hide (HE.out.trans hE)
      clear hE
      have HOx1 := hide (InI.mk_ ho); clear ho
      go_wp2_with fail
      refine (iMoveGame_any _ _ _ xs0 _ _ _ xs1 a2 a3 _ HOx0.out.grid HOx1.out.ints hi3).mono ?_; rintro e w6 ⟨Ag0, cg0, rfl, ho0, hE⟩
      replace HOt1 := hide (HOt1.out.ext hE)
      replace HOt2 := hide (HOt2.out.ext hE)
      replace HOw0 := hide (HOw0.out.ext hE)
      replace HOx0 := hide (HOx0.out.ext hE)
      replace HOx1 := hide (HOx1.out.ext hE)
      have hz6 := hE.size
      replace HE := hide (HE.out.trans hE)
      clear hE
      have HOg0 := hide (InI.mk_ ho0); clear ho0
      go_wp2_with fail
      refine (eqIntS_any _ _ _ (moved xs0 xs1 a2 a3) _ _ _ (moved xs0 xs1 a2 a3) _ HOg0.out.ints HOw0.out.ints).mono ?_; rintro e w7 ⟨rfl, hE⟩
      replace HOt1 := hide (HOt1.out.ext hE)
      replace HOt2 := hide (HOt2.out.ext hE)
      replace HOw0 := hide (HOw0.out.ext hE)
      replace HOx0 := hide (HOx0.out.ext hE)
      replace HOx1 := hide (HOx1.out.ext hE)
      replace HOg0 := hide (HOg0.out.ext hE)
      have hz7 := hE.size
      replace HE := hide (HE.out.trans hE)
      clear hE
      go_wp2_with fail
      refine (toIntSS_any _ _ _ xs0 _ (HI0.out.ext HE.out) hb0).mono ?_; rintro e w8 ⟨At5, ct5, rfl, ho, hE⟩
      replace HOt1 := hide (HOt1.out.ext hE)
      replace HOt2 := hide (HOt2.out.ext hE)
      replace HOw0 := hide (HOw0.out.ext hE)
      replace HOx0 := hide (HOx0.out.ext hE)
      replace HOx1 := hide (HOx1.out.ext hE)
      replace HOg0 := hide (HOg0.out.ext hE)
      have hz8 := hE.size
      replace HE := hide (HE.out.trans hE)
      clear hE
      have HOt5 := hide ho; clear ho
      go_wp2_with fail
      refine (eqIntSS_any _ _ _ (xs0) _ _ _ (xs0) _ HOx0.out.grid HOt5.out.grid).mono ?_; rintro e w9 ⟨rfl, hE⟩
      replace HOt1 := hide (HOt1.out.ext hE)
      replace HOt2 := hide (HOt2.out.ext hE)
      replace HOw0 := hide (HOw0.out.ext hE)
      replace HOx0 := hide (HOx0.out.ext hE)
      replace HOx1 := hide (HOx1.out.ext hE)
      replace HOg0 := hide (HOg0.out.ext hE)
      replace HOt5 := hide (HOt5.out.ext hE)
      have hz9 := hE.size
      replace HE := hide (HE.out.trans hE)
      clear hE
      go_wp2_with fail
      refine (toIntS_any _ _ _ xs1 _ (HI1.out.ext HE.out) (by omega)).mono ?_; rintro e w10 ⟨At6, ct6, rfl, ho, hE⟩
      replace HOt1 := hide (HOt1.out.ext hE)
      replace HOt2 := hide (HOt2.out.ext hE)
      replace HOw0 := hide (HOw0.out.ext hE)
      replace HOx0 := hide (HOx0.out.ext hE)
      replace HOx1 := hide (HOx1.out.ext hE)
      replace HOg0 := hide (HOg0.out.ext hE)
      replace HOt5 := hide (HOt5.out.ext hE)
      have hz10 := hE.size
      replace HE := hide (HE.out.trans hE)
      clear hE
      have HOt6 := hide (InI.mk_ ho); clear ho
      go_wp2_with fail
      refine (eqIntS_any _ _ _ (xs1) _ _ _ (xs1) _ HOx1.out.ints HOt6.out.ints).mono ?_; rintro e w11 ⟨rfl, hE⟩
      replace HOt1 := hide (HOt1.out.ext hE)
      replace HOt2 := hide (HOt2.out.ext hE)
      replace HOw0 := hide (HOw0.out.ext hE)
      replace HOx0 := hide (HOx0.out.ext hE)
      replace HOx1 := hide (HOx1.out.ext hE)
      replace HOg0 := hide (HOg0.out.ext hE)
      replace HOt5 := hide (HOt5.out.ext hE)
      replace HOt6 := hide (HOt6.out.ext hE)
      have hz11 := hE.size
      replace HE := hide (HE.out.trans hE)
      clear hE
      go_wp2_with fail
      refine (markIntSS_in _ _ _ (xs0) _ _ HOx0.out (by omega) (by omega)).mono ?_; rintro e w12 ⟨rfl, ho, hg⟩
      have hz12 := hg.size
      replace HOt1 := hide (HOt1.out.only hg (by omega))
      replace HOt2 := hide (HOt2.out.only hg (by omega))
      replace HOw0 := hide (HOw0.out.only hg (by omega))
      replace HOx1 := hide (HOx1.out.only hg (by omega))
      replace HOg0 := hide (HOg0.out.only hg (by omega))
      replace HOt5 := hide (HOt5.out.only hg (by omega))
      replace HOt6 := hide (HOt6.out.only hg (by omega))
      replace HE := hide (HE.out.only hg (by omega))
      replace HOx0 := hide ho; clear ho hg
      go_wp2_with fail
      refine (markIntS_in _ _ _ (xs1) _ _ HOx1.out (by omega) (by omega)).mono ?_; rintro e w13 ⟨rfl, ho, hg⟩
      have hz13 := hg.size
      replace HOt1 := hide (HOt1.out.only hg (by omega))
      replace HOt2 := hide (HOt2.out.only hg (by omega))
      replace HOw0 := hide (HOw0.out.only hg (by omega))
      replace HOx0 := hide (HOx0.out.only hg (by omega))
      replace HOg0 := hide (HOg0.out.only hg (by omega))
      replace HOt5 := hide (HOt5.out.only hg (by omega))
      replace HOt6 := hide (HOt6.out.only hg (by omega))
      replace HE := hide (HE.out.only hg (by omega))
      replace HOx1 := hide ho; clear ho hg
      go_wp2_with fail
      refine (eqIntS_any _ _ _ (moved xs0 xs1 a2 a3) _ _ _ (moved xs0 xs1 a2 a3) _ HOg0.out.ints HOw0.out.ints).mono ?_; rintro e w14 ⟨rfl, hE⟩
      replace HOt1 := hide (HOt1.out.ext hE)
      replace HOt2 := hide (HOt2.out.ext hE)
      replace HOw0 := hide (HOw0.out.ext hE)
      replace HOx0 := hide (HOx0.out.ext hE)
      replace HOx1 := hide (HOx1.out.ext hE)
      replace HOg0 := hide (HOg0.out.ext hE)
      replace HOt5 := hide (HOt5.out.ext hE)
      replace HOt6 := hide (HOt6.out.ext hE)
      have hz14 := hE.size
      replace HE := hide (HE.out.trans hE)
      clear hE
      go_wp2_with fail
      refine (markIntS_in _ _ _ (moved xs0 xs1 a2 a3) _ _ HOg0.out (by omega) (by omega)).mono ?_; rintro e w15 ⟨rfl, ho, hg⟩
      have hz15 := hg.size
      replace HOt1 := hide (HOt1.out.only hg (by omega))
      replace HOt2 := hide (HOt2.out.only hg (by omega))
      replace HOw0 := hide (HOw0.out.only hg (by omega))
      replace HOx0 := hide (HOx0.out.only hg (by omega))
      replace HOx1 := hide (HOx1.out.only hg (by omega))
      replace HOt5 := hide (HOt5.out.only hg (by omega))
      replace HOt6 := hide (HOt6.out.only hg (by omega))
      replace HE := hide (HE.out.only hg (by omega))
      replace HOg0 := hide ho; clear ho hg
      go_wp2_with fail
      refine (heldIntS_any _ _ _ _ _ HOg0.out.ints (by omega) (by omega)).mono ?_; rintro e w' ⟨rfl, rfl⟩
      go_wp2_with fail
      refine (toIntSS_any _ _ _ xs0 _ (HI0.out.ext HE.out) hb0).mono ?_; rintro e w16 ⟨At7, ct7, rfl, ho, hE⟩
      replace HOt1 := hide (HOt1.out.ext hE)
      replace HOt2 := hide (HOt2.out.ext hE)
      replace HOw0 := hide (HOw0.out.ext hE)
      replace HOx0 := hide (HOx0.out.ext hE)
      replace HOx1 := hide (HOx1.out.ext hE)
      replace HOg0 := hide (HOg0.out.ext hE)
      replace HOt5 := hide (HOt5.out.ext hE)
      replace HOt6 := hide (HOt6.out.ext hE)
      have hz16 := hE.size
      replace HE := hide (HE.out.trans hE)
      clear hE
      have HOt7 := hide ho; clear ho
      go_wp2_with fail
      refine (toIntS_any _ _ _ xs1 _ (HI1.out.ext HE.out) (by omega)).mono ?_; rintro e w17 ⟨At8, ct8, rfl, ho, hE⟩
      replace HOt1 := hide (HOt1.out.ext hE)
      replace HOt2 := hide (HOt2.out.ext hE)
      replace HOw0 := hide (HOw0.out.ext hE)
      replace HOx0 := hide (HOx0.out.ext hE)
      replace HOx1 := hide (HOx1.out.ext hE)
      replace HOg0 := hide (HOg0.out.ext hE)
      replace HOt5 := hide (HOt5.out.ext hE)
      replace HOt6 := hide (HOt6.out.ext hE)
      replace HOt7 := hide (HOt7.out.ext hE)
      have hz17 := hE.size
      replace HE := hide (HE.out.trans hE)
      clear hE
      have HOt8 := hide (InI.mk_ ho); clear ho
      go_wp2_with fail
      refine (iMoveGame_any _ _ _ xs0 _ _ _ xs1 a2 a3 _ HOt7.out.grid HOt8.out.ints hi3).mono ?_; rintro e w18 ⟨Ah0, ch0, rfl, ho0, hE⟩
      replace HOt1 := hide (HOt1.out.ext hE)
      replace HOt2 := hide (HOt2.out.ext hE)
      replace HOw0 := hide (HOw0.out.ext hE)
      replace HOx0 := hide (HOx0.out.ext hE)
      replace HOx1 := hide (HOx1.out.ext hE)
      replace HOg0 := hide (HOg0.out.ext hE)
      replace HOt5 := hide (HOt5.out.ext hE)
      replace HOt6 := hide (HOt6.out.ext hE)
      replace HOt7 := hide (HOt7.out.ext hE)
      replace HOt8 := hide (HOt8.out.ext hE)
      have hz18 := hE.size
      replace HE := hide (HE.out.trans hE)
      clear hE
      have HOh0 := hide (InI.mk_ ho0); clear ho0
      go_wp2_with fail
      refine (eqIntS_any _ _ _ (moved xs0 xs1 a2 a3) _ _ _ (moved xs0 xs1 a2 a3) _ HOh0.out.ints HOw0.out.ints).mono ?_; rintro e w19 ⟨rfl, hE⟩
      replace HOt1 := hide (HOt1.out.ext hE)
      replace HOt2 := hide (HOt2.out.ext hE)
      replace HOw0 := hide (HOw0.out.ext hE)
      replace HOx0 := hide (HOx0.out.ext hE)
      replace HOx1 := hide (HOx1.out.ext hE)
      replace HOg0 := hide (HOg0.out.ext hE)
      replace HOt5 := hide (HOt5.out.ext hE)
      replace HOt6 := hide (HOt6.out.ext hE)
      replace HOt7 := hide (HOt7.out.ext hE)
      replace HOt8 := hide (HOt8.out.ext hE)
      replace HOh0 := hide (HOh0.out.ext hE)
      have hz19 := hE.size
      replace HE := hide (HE.out.trans hE)
      clear hE
      go_wp2_with fail
      refine (heldIntS_any _ _ _ _ _ HOg0.out.ints (by omega) (by omega)).mono ?_; rintro e w' ⟨rfl, rfl⟩
      go_wp2
      go_ret
      exact ⟨by first | rfl | simp, HE.out⟩
    · go_enter Try.func8, Try.ntmps8
      have HSZ := hide (szLeft_no (n := bulk xs0) (left := 1048576) (by omega))
      go_wp2_with fail
      refine (szIntSS_any _ _ _ xs0 _ _ HI0.out (by omega) (by omega)).mono ?_; rw [HSZ.out]; rintro e w' ⟨rfl, rfl⟩
      clear HSZ
      go_wp2
      go_ret
      exact ⟨rfl, Ext.refl _⟩
  · go_enter Try.func8, Try.ntmps8
    go_wp2
    go_ret
    exact ⟨rfl, Ext.refl _⟩

end Go.Proofs.Ytfmdifhdmanmfaa
