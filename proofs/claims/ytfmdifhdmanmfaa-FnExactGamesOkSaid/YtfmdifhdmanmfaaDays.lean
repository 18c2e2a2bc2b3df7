/-
  Contracts of the functions on days of games.
-/
import Derived.Test.YtfmdifhdmanmfaaBase
import Derived.Test.YtfmdifhdmanmfaaMathA
import Derived.Test.YtfmdifhdmanmfaaMathD
import Derived.Test.YtfmdifhdmanmfaaLib
import Derived.Test.YtfmdifhdmanmfaaAid
import Derived.Test.YtfmdifhdmanmfaaGrid
import Derived.Test.YtfmdifhdmanmfaaLibF
namespace Go.Proofs.Ytfmdifhdmanmfaa
open Go.RowKit
set_option linter.unusedVariables false

-- impl.GamesOk
theorem gamesOk_pred (rows : List (List Int)) (w : World) : PredG 46 #[] (fun g => !decide (gameOk g)) rows w := by
  intro W B d r _ hi hE
  have HI := hide hi; clear hi hE
  by_cases h2 : r.length = 2
  · have h2' : ((r.length : Int) != 2) = false := by simp [h2]
    have HF := hide (show (!decide (gameOk r)) = !decide (∀ x ∈ r, 0 ≤ x ∧ x ≤ 5) by simp only [gameOk, h2, true_and])
    clear h2
    go_enter Try.func46, Try.ntmps46
    go_wp2_with (go_at_call 47; refine (allWithin_any _ _ _ r _ _ _ HI.out).mono ?_; rintro e w1 ⟨rfl, hE1⟩)
    go_ret
    exact ⟨ret_bool HF.out.symm, hE1⟩
  · have h2' : ((r.length : Int) != 2) = true := by rw [bne_iff_ne]; omega
    have HF := hide (show (!decide (gameOk r)) = true by simp [gameOk, h2])
    clear h2
    go_enter Try.func46, Try.ntmps46
    go_wp2
    go_ret
    exact ⟨ret_bool HF.out.symm, Ext.refl _⟩
theorem iGamesOk_any (A : Option Addr) (n c : Nat) (rows : List (List Int)) (w : World) (h : Grid w A n c rows) :
    Calls Try.prog 16 #[.slice A n c] w fun e w' => e = .returned (.bool (decide (gamesOk rows))) ∧ Ext w w' := by
  have HL := hide h.len
  have HI := hide h; clear h
  have eg : Enters Try.prog 46 := enters_of Try.func46 (by kernel_rfl) rfl
  have EG := hide eg; clear eg
  by_cases h18 : n ≤ 18
  · have h18' : decide ((n : Int) ≤ 18) = true := by simp; omega
    have HF := hide (gamesOk_yes (rows := rows) (by have := HL.out; omega))
    go_enter Try.func16, Try.ntmps16
    go_wp2_with (go_at_call 45; refine (ContainsFuncG_any _ _ (fun g => !decide (gameOk g)) EG.out _ _ _ rows _ HI.out (gamesOk_pred rows _)).mono ?_; rintro e w1 ⟨rfl, hE1⟩)
    go_ret
    exact ⟨ret_bool HF.out.symm, hE1⟩
  · have h18' : decide ((n : Int) ≤ 18) = false := by simp; omega
    have HF := hide (gamesOk_no (rows := rows) (by have := HL.out; omega))
    go_enter Try.func16, Try.ntmps16
    go_wp2
    go_ret
    exact ⟨ret_bool HF.out.symm, Ext.refl _⟩
-- spec.GamesOk
theorem sGamesOk_any (A : Option Addr) (n c : Nat) (rows : List (List Int)) (w : World) (h : Grid w A n c rows) :
    Calls Try.prog 14 #[.slice A n c] w fun e w' => e = .returned (.bool (decide (gamesOk rows))) ∧ w = w' := by
  have HL := hide h.len
  have hle := h.le
  have hmx := h.max
  by_cases h18 : n ≤ 18
  · go_enter Try.func14, Try.ntmps14
    go_wp2
    go_loop [10] (fun i => ∃ k : Nat, k ≤ n ∧ i = .int .i64 k ∧ Hid (∀ g ∈ rows.take k, gameOk g)) (fun i => n - (intOf i).toNat)
    case atStart => exact ⟨0, Nat.zero_le _, rfl, hide (by simp)⟩
    case round =>
      obtain ⟨k, hk, rfl, HV⟩ := hrel
      by_cases hlt : k < n
      · obtain ⟨b, off, B, d, r, rfl, hb, hx, hc, hi⟩ := h.get hlt
        have HX := hide hx; clear hx
        by_cases h2 : r.length = 2
        · obtain ⟨b1, o1, x, rfl, hb1, hx1, wx, hc1⟩ := hi.get (k := 0) (by omega)
          obtain ⟨b2, o2, y, e2, hb2, hy1, wy, hc2⟩ := hi.get (k := 1) (by omega)
          cases e2
          have hr : r = [x, y] := by
            match r, h2 with
            | [p, q], _ => simp at hx1 hy1; rw [hx1, hy1]
          subst hr
          clear hx1 hy1 hi h2
          simp only [Nat.add_zero] at hc1
          by_cases hx5 : 0 ≤ x ∧ x ≤ 5
          · by_cases hy5 : 0 ≤ y ∧ y ≤ 5
            · go_wp2_with (first | (go_at_call 44; refine (l01In_any _ _ _ _).mono ?_; rintro e w' ⟨rfl, rfl⟩))
              go_round
              case rel =>
                refine ⟨k + 1, by omega, by go_num, hide ?_⟩
                rw [take_snoc_of HX.out]
                intro g hg
                rcases List.mem_append.1 hg with hg | hg
                · exact HV.out g hg
                · obtain rfl : g = [x, y] := by simpa using hg
                  exact ⟨rfl, fun z hz => by simp at hz; rcases hz with rfl | rfl <;> assumption⟩
              case measure => (simp [intOf] <;> omega)
            · go_wp2_with (first | (go_at_call 44; refine (l01In_any _ _ _ _).mono ?_; rintro e w' ⟨rfl, rfl⟩))
              go_ret
              exact ⟨ret_bool (by symm; rw [decide_eq_false_iff_not]; intro hg; have := (hg.2 _ (List.mem_of_getElem? HX.out)).2 y (by simp); omega), rfl⟩
          · go_wp2_with (first | (go_at_call 44; refine (l01In_any _ _ _ _).mono ?_; rintro e w' ⟨rfl, rfl⟩))
            go_ret
            exact ⟨ret_bool (by symm; rw [decide_eq_false_iff_not]; intro hg; have := (hg.2 _ (List.mem_of_getElem? HX.out)).2 x (by simp); omega), rfl⟩
        · have h2' : ((r.length : Int) != 2) = true := by rw [bne_iff_ne]; omega
          have H2 := hide h2; clear h2
          go_wp2
          go_ret
          exact ⟨ret_bool (by symm; rw [decide_eq_false_iff_not]; intro hg; exact H2.out (hg.2 _ (List.mem_of_getElem? HX.out)).1), rfl⟩
      · have : k = n := by omega
        subst this
        go_wp2
        go_ret
        exact ⟨ret_bool (by symm; rw [decide_eq_true_eq]; have := HV.out; rw [take_len HL.out] at this; exact ⟨by have := HL.out; omega, this⟩), rfl⟩
  · go_enter Try.func14, Try.ntmps14
    go_wp2
    go_ret
    exact ⟨ret_bool (by symm; rw [decide_eq_false_iff_not]; intro hg; have := HL.out; have := hg.1; omega), rfl⟩
-- law GamesOk
theorem law_GamesOk (A0 : Option Addr) (n0 c0 : Nat) (xs0 : List (List Int)) (w : World) (h0 : Grid w A0 n0 c0 xs0) :
    Calls Try.prog 3 #[.slice A0 n0 c0] w fun e w' => e = .returned (.bool true) ∧ Ext w w' := by
  have hl0 := h0.len; subst hl0
  have HI0 := hide h0; clear h0
  by_cases hs0 : (bulk xs0 : Int) ≤ 1048576
  · skip
    have hb0 : bulk xs0 ≤ 1048576 := by omega
    go_enter Try.func3, Try.ntmps3
    have HSZ := hide (szLeft_yes (n := bulk xs0) (left := 1048576) (by omega))
    go_wp2_with fail
    refine (szIntSS_any _ _ _ xs0 _ _ HI0.out (by omega) (by omega)).mono ?_; rw [HSZ.out]; rintro e w' ⟨rfl, rfl⟩
    clear HSZ
    go_wp2_with fail
    refine (toIntSS_any _ _ _ xs0 _ HI0.out hb0).mono ?_; rintro e w1 ⟨At1, ct1, rfl, ho, hE⟩
    have hz1 := hE.size
    have HE := hide hE
    clear hE
    have HOt1 := hide ho; clear ho
    go_wp2_with fail
    refine (sGamesOk_any _ _ _ xs0 _ HOt1.out.grid).mono ?_; rintro e w' ⟨rfl, rfl⟩
    go_wp2_with fail
    refine (toIntSS_any _ _ _ xs0 _ (HI0.out.ext HE.out) hb0).mono ?_; rintro e w2 ⟨Ax0, cx0, rfl, ho, hE⟩
    replace HOt1 := hide (HOt1.out.ext hE)
    have hz2 := hE.size
    replace HE := hide (HE.out.trans hE)
    clear hE
    have HOx0 := hide ho; clear ho
    go_wp2_with fail
    refine (iGamesOk_any _ _ _ xs0 _ HOx0.out.grid).mono ?_; rintro e w3 ⟨rfl, hE⟩
    replace HOt1 := hide (HOt1.out.ext hE)
    replace HOx0 := hide (HOx0.out.ext hE)
    have hz3 := hE.size
    replace HE := hide (HE.out.trans hE)
    clear hE
    go_wp2_with fail
    refine (toIntSS_any _ _ _ xs0 _ (HI0.out.ext HE.out) hb0).mono ?_; rintro e w4 ⟨At3, ct3, rfl, ho, hE⟩
    replace HOt1 := hide (HOt1.out.ext hE)
    replace HOx0 := hide (HOx0.out.ext hE)
    have hz4 := hE.size
    replace HE := hide (HE.out.trans hE)
    clear hE
    have HOt3 := hide ho; clear ho
    go_wp2_with fail
    refine (eqIntSS_any _ _ _ (xs0) _ _ _ (xs0) _ HOx0.out.grid HOt3.out.grid).mono ?_; rintro e w5 ⟨rfl, hE⟩
    replace HOt1 := hide (HOt1.out.ext hE)
    replace HOx0 := hide (HOx0.out.ext hE)
    replace HOt3 := hide (HOt3.out.ext hE)
    have hz5 := hE.size
    replace HE := hide (HE.out.trans hE)
    clear hE
    go_wp2
    go_ret
    exact ⟨by first | rfl | simp, HE.out⟩
  · go_enter Try.func3, Try.ntmps3
    have HSZ := hide (szLeft_no (n := bulk xs0) (left := 1048576) (by omega))
    go_wp2_with fail
    refine (szIntSS_any _ _ _ xs0 _ _ HI0.out (by omega) (by omega)).mono ?_; rw [HSZ.out]; rintro e w' ⟨rfl, rfl⟩
    clear HSZ
    go_wp2
    go_ret
    exact ⟨rfl, Ext.refl _⟩

end Go.Proofs.Ytfmdifhdmanmfaa
