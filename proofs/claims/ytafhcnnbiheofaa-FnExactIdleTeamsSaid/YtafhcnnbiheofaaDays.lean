/-
  Contracts of the functions on days of games.
-/
import Derived.Test.YtafhcnnbiheofaaBase
import Derived.Test.YtafhcnnbiheofaaMathA
import Derived.Test.YtafhcnnbiheofaaMathD
import Derived.Test.YtafhcnnbiheofaaLib
import Derived.Test.YtafhcnnbiheofaaAid
import Derived.Test.YtafhcnnbiheofaaGrid
import Derived.Test.YtafhcnnbiheofaaLibF
namespace Go.Proofs.Ytafhcnnbiheofaa
open Go.RowKit
set_option linter.unusedVariables false

-- impl.GamesOk
theorem gamesOk_pred (rows : List (List Int)) (w : World) : PredG 107 #[] (fun g => !decide (gameOk g)) rows w := by
  intro W B d r _ hi hE
  have HI := hide hi; clear hi hE
  by_cases h2 : r.length = 2
  · have h2' : ((r.length : Int) != 2) = false := by simp [h2]
    have HF := hide (show (!decide (gameOk r)) = !decide (∀ x ∈ r, 0 ≤ x ∧ x ≤ 5) by simp only [gameOk, h2, true_and])
    clear h2
    go_enter Try.func107, Try.ntmps107
    go_wp2_with (go_at_call 103; refine (allWithin_any _ _ _ r _ _ _ HI.out).mono ?_; rintro e w1 ⟨rfl, hE1⟩)
    go_ret
    exact ⟨ret_bool HF.out.symm, hE1⟩
  · have h2' : ((r.length : Int) != 2) = true := by rw [bne_iff_ne]; omega
    have HF := hide (show (!decide (gameOk r)) = true by simp [gameOk, h2])
    clear h2
    go_enter Try.func107, Try.ntmps107
    go_wp2
    go_ret
    exact ⟨ret_bool HF.out.symm, Ext.refl _⟩
theorem iGamesOk_any (A : Option Addr) (n c : Nat) (rows : List (List Int)) (w : World) (h : Grid w A n c rows) :
    Calls Try.prog 59 #[.slice A n c] w fun e w' => e = .returned (.bool (decide (gamesOk rows))) ∧ Ext w w' := by
  have HL := hide h.len
  have HI := hide h; clear h
  have eg : Enters Try.prog 107 := enters_of Try.func107 (by kernel_rfl) rfl
  have EG := hide eg; clear eg
  by_cases h18 : n ≤ 18
  · have h18' : decide ((n : Int) ≤ 18) = true := by simp; omega
    have HF := hide (gamesOk_yes (rows := rows) (by have := HL.out; omega))
    go_enter Try.func59, Try.ntmps59
    go_wp2_with (go_at_call 64; refine (ContainsFuncG_any _ _ (fun g => !decide (gameOk g)) EG.out _ _ _ rows _ HI.out (gamesOk_pred rows _)).mono ?_; rintro e w1 ⟨rfl, hE1⟩)
    go_ret
    exact ⟨ret_bool HF.out.symm, hE1⟩
  · have h18' : decide ((n : Int) ≤ 18) = false := by simp; omega
    have HF := hide (gamesOk_no (rows := rows) (by have := HL.out; omega))
    go_enter Try.func59, Try.ntmps59
    go_wp2
    go_ret
    exact ⟨ret_bool HF.out.symm, Ext.refl _⟩
-- rows of two
theorem row_cells {w : World} {B : Option Addr} {d : Nat} {r : List Int} (hi : Ints w B r.length d r) (h : gameOk r) :
    ∃ b1 o1 x y, B = some ⟨b1, o1, none⟩ ∧ b1 < w.heap.size ∧ x ≤ 5 ∧ y ≤ 5 ∧ r = [((x : Nat) : Int), ((y : Nat) : Int)] ∧ w.cell? ⟨b1, o1, none⟩ = some (.int .i64 (x : Int)) ∧ w.cell? ⟨b1, o1 + 1, none⟩ = some (.int .i64 (y : Int)) := by
  obtain ⟨x, y, rfl, hx, hy⟩ := gameOk_two h
  obtain ⟨b1, o1, x', rfl, hb1, hx1, wx, hc1⟩ := hi.get (k := 0) (by simp)
  obtain ⟨b2, o2, y', e2, hb2, hy1, wy, hc2⟩ := hi.get (k := 1) (by simp)
  cases e2
  simp at hx1 hy1
  subst hx1
  subst hy1
  exact ⟨b1, o1, x, y, rfl, hb1, hx, hy, rfl, by simpa using hc1, hc2⟩
-- spec.GamesOk
theorem sGamesOk_any (A : Option Addr) (n c : Nat) (rows : List (List Int)) (w : World) (h : Grid w A n c rows) :
    Calls Try.prog 56 #[.slice A n c] w fun e w' => e = .returned (.bool (decide (gamesOk rows))) ∧ w = w' := by
  have HL := hide h.len
  have hle := h.le
  have hmx := h.max
  by_cases h18 : n ≤ 18
  · go_enter Try.func56, Try.ntmps56
    go_wp2
    go_loop [10] (fun i => ∃ k : Nat, k ≤ n ∧ i = .int .i64 k ∧ Hid (∀ g ∈ rows.take k, gameOk g)) (fun i => n - (intOf i).toNat)
    case atStart => exact ⟨0, Nat.zero_le _, rfl, hide (by simp)⟩
    case round =>
      obtain ⟨k, hk, rfl, HV⟩ := hrel
      by_cases hlt : k < n
      · obtain ⟨b, off, B, d, r, rfl, hb, hx, hc, hi⟩ := h.get hlt
        have HX := hide hx; clear hx
        by_cases h2 : r.length = 2
        · obtain ⟨b1, o1, x, rfl, hb1, hx1, wx, hc1⟩ := hi.get (k := 0) (by omega)
          obtain ⟨b2, o2, y, e2, hb2, hy1, wy, hc2⟩ := hi.get (k := 1) (by omega)
          cases e2
          have hr : r = [x, y] := by
            match r, h2 with
            | [p, q], _ => simp at hx1 hy1; rw [hx1, hy1]
          subst hr
          clear hx1 hy1 hi h2
          simp only [Nat.add_zero] at hc1
          by_cases hx5 : 0 ≤ x ∧ x ≤ 5
          · by_cases hy5 : 0 ≤ y ∧ y ≤ 5
            · go_wp2_with (first | (go_at_call 67; refine (l01In_any _ _ _ _).mono ?_; rintro e w' ⟨rfl, rfl⟩))
              go_round
              case rel =>
                refine ⟨k + 1, by omega, by go_num, hide ?_⟩
                rw [take_snoc_of HX.out]
                intro g hg
                rcases List.mem_append.1 hg with hg | hg
                · exact HV.out g hg
                · obtain rfl : g = [x, y] := by simpa using hg
                  exact ⟨rfl, fun z hz => by simp at hz; rcases hz with rfl | rfl <;> assumption⟩
              case measure => (simp [intOf] <;> omega)
            · go_wp2_with (first | (go_at_call 67; refine (l01In_any _ _ _ _).mono ?_; rintro e w' ⟨rfl, rfl⟩))
              go_ret
              exact ⟨ret_bool (by symm; rw [decide_eq_false_iff_not]; intro hg; have := (hg.2 _ (List.mem_of_getElem? HX.out)).2 y (by simp); omega), rfl⟩
          · go_wp2_with (first | (go_at_call 67; refine (l01In_any _ _ _ _).mono ?_; rintro e w' ⟨rfl, rfl⟩))
            go_ret
            exact ⟨ret_bool (by symm; rw [decide_eq_false_iff_not]; intro hg; have := (hg.2 _ (List.mem_of_getElem? HX.out)).2 x (by simp); omega), rfl⟩
        · have h2' : ((r.length : Int) != 2) = true := by rw [bne_iff_ne]; omega
          have H2 := hide h2; clear h2
          go_wp2
          go_ret
          exact ⟨ret_bool (by symm; rw [decide_eq_false_iff_not]; intro hg; exact H2.out (hg.2 _ (List.mem_of_getElem? HX.out)).1), rfl⟩
      · have : k = n := by omega
        subst this
        go_wp2
        go_ret
        exact ⟨ret_bool (by symm; rw [decide_eq_true_eq]; have := HV.out; rw [take_len HL.out] at this; exact ⟨by have := HL.out; omega, this⟩), rfl⟩
  · go_enter Try.func56, Try.ntmps56
    go_wp2
    go_ret
    exact ⟨ret_bool (by symm; rw [decide_eq_false_iff_not]; intro hg; have := HL.out; have := hg.1; omega), rfl⟩
-- impl.IsSchedule
theorem iIsSchedule_any (A : Option Addr) (n c : Nat) (rows : List (List Int)) (A2 : Option Addr) (n2 c2 : Nat) (days : List Int) (w : World) (h : Grid w A n c rows) (h2 : Ints w A2 n2 c2 days) :
    Calls Try.prog 63 #[.slice A n c, .slice A2 n2 c2] w fun e w' => e = .returned (.bool (decide (isSchedule rows days))) ∧ Ext w w' := by
  have HL := hide h.len
  have HL2 := hide h2.len
  have HI := hide h
  have HI2 := hide h2
  have hle := h.le
  have hmx := h.max
  by_cases hok : gamesOk rows
  · have h18 : n ≤ 18 := by have := HL.out; have := hok.1; omega
    have HO := hide hok
    by_cases hnn : n2 = n
    · subst hnn
      by_cases hin : ∀ d ∈ days, 0 ≤ d ∧ d ≤ 17
      · have HIN := hide hin
        go_enter Try.func63, Try.ntmps63
        go_wp2_with (first | (go_at_call 59; refine (iGamesOk_any _ _ _ rows _ HI.out).mono ?_; rintro e w1 ⟨rfl, hE1⟩) | (go_at_call 103; refine (allWithin_any _ _ _ days _ _ _ (HI2.out.ext hE1)).mono ?_; rw [decide_eq_true HIN.out]; rintro e w2 ⟨rfl, hE2⟩))
        have HE0 := hide (hE1.trans hE2); clear hE1 hE2 hin
        go_loopw [26] (fun i wr => ∃ k : Nat, k ≤ n2 ∧ i = .int .i64 k ∧ Hid (freeTo rows days k) ∧ Ext w wr) (fun i _ => n2 - (intOf i).toNat)
        case atStart => exact ⟨0, Nat.zero_le _, rfl, hide (fun j hj => absurd hj (Nat.not_lt_zero _)), HE0.out⟩
        case round =>
          obtain ⟨i, hi, rfl, HV, hE⟩ := hrel
          by_cases hlt : i < n2
          · obtain ⟨b, off, B, d, r, rfl, hb, hx, hc, hir⟩ := (h.ext hE).get hlt
            obtain ⟨b1, o1, x, y, rfl, hb1, hx5, hy5, rfl, hcx, hcy⟩ := row_cells hir (hok.2 r (List.mem_of_getElem? hx))
            obtain ⟨b2, o2, di, rfl, hb2, hdi, wdi, hcd⟩ := (h2.ext hE).get hlt
            have HX := hide hx; have HD := hide hdi; have HE := hide hE
            clear hx hir hdi hE
            go_wp2
            obtain ⟨w0, rfl⟩ : ∃ w0 : World, w0 = wr := ⟨_, rfl⟩
            go_loopw [35] (fun j w3 => ∃ k : Nat, k ≤ i ∧ j = .int .i64 k ∧ Hid (∀ k', k' < k → ¬ clash rows days i k') ∧ Ext w0 w3) (fun j _ => i - (intOf j).toNat)
            case atStart => exact ⟨0, Nat.zero_le _, rfl, hide (fun k hk => absurd hk (Nat.not_lt_zero _)), Ext.refl _⟩
            case round =>
              obtain ⟨k, hk, rfl, HW, hE3⟩ := hrel
              have hcx3 := hE3.get hcx
              have hcy3 := hE3.get hcy
              have hcd3 := hE3.get hcd
              by_cases hkl : k < i
              · obtain ⟨b', off', B', d', r', e1, hb', hx', hc', hir'⟩ := (h.ext (HE.out.trans hE3)).get (k := k) (by omega)
                cases e1
                obtain ⟨b4, o4, x', y', rfl, hb4, hx5', hy5', rfl, hcx', hcy'⟩ := row_cells hir' (hok.2 r' (List.mem_of_getElem? hx'))
                obtain ⟨b5, o5, dk, e2, hb5, hdk, wdk, hcdk⟩ := (h2.ext (HE.out.trans hE3)).get (k := k) (by omega)
                cases e2
                have HC := hide (clash_iff HD.out hdk HX.out hx')
                have HE3 := hide hE3
                have hkn : k < n2 := by omega
                clear hx' hir' hdk hE3 hcx hcy hcd
                by_cases hdd : di = dk
                · subst hdd
                  by_cases hxx : (x : Int) = (x' : Int)
                  · have hxb : ((x : Int) == (x' : Int)) = true := by simpa using hxx
                    have HCL := hide (HC.out.2 ⟨rfl, .inl hxx⟩); clear hxx
                    go_wp2
                    go_quiet (fail)
                    go_wp2
                    go_ret
                    exact ⟨ret_bool (by symm; rw [decide_eq_false_iff_not]; intro hs; exact hs.2.2.2 i (by have := HL.out; omega) k hkl HCL.out), (HE.out.trans HE3.out).drewN _⟩
                  · have hxb : ((x : Int) == (x' : Int)) = false := by simpa using hxx
                    by_cases hyy : (y : Int) = (y' : Int)
                    · have hyb : ((y : Int) == (y' : Int)) = true := by simpa using hyy
                      have HCL := hide (HC.out.2 ⟨rfl, .inr hyy⟩); clear hxx hyy
                      go_wp2
                      go_quiet (fail)
                      go_wp2
                      go_ret
                      exact ⟨ret_bool (by symm; rw [decide_eq_false_iff_not]; intro hs; exact hs.2.2.2 i (by have := HL.out; omega) k hkl HCL.out), (HE.out.trans HE3.out).drewN _⟩
                    · have hyb : ((y : Int) == (y' : Int)) = false := by simpa using hyy
                      have HCL := hide (fun hcl => (HC.out.1 hcl).2.elim hxx hyy); clear hxx hyy
                      go_wp2
                      go_quiet (fail)
                      go_wp2
                      go_roundw
                      case rel =>
                        refine ⟨k + 1, by omega, by go_num, hide (fun k' hk' => ?_), HE3.out.drewN _⟩
                        by_cases e : k' = k
                        · subst e; exact HCL.out
                        · exact HW.out k' (by omega)
                      case measure => (simp [intOf] <;> omega)
                · have hdb : (di == dk) = false := by simpa using hdd
                  have HCL := hide (fun hcl => hdd (HC.out.1 hcl).1); clear hdd
                  go_wp2
                  go_quiet (fail)
                  go_wp2
                  go_roundw
                  case rel =>
                    refine ⟨k + 1, by omega, by go_num, hide (fun k' hk' => ?_), HE3.out.drewN _⟩
                    by_cases e : k' = k
                    · subst e; exact HCL.out
                    · exact HW.out k' (by omega)
                  case measure => (simp [intOf] <;> omega)
              · have hke : k = i := by omega
                have HK := hide hke
                have HE3 := hide hE3
                clear hke hE3 hcx hcy hcd hcx3 hcy3 hcd3
                go_wp2
                go_roundw
                case rel => exact ⟨i + 1, by omega, by go_num, hide (freeTo_succ HV.out (fun k' hk' => HW.out k' (by rw [HK.out]; exact hk'))), HE.out.trans HE3.out⟩
                case measure => (simp [intOf] <;> omega)
          · have hie : i = n2 := by omega
            subst hie
            have HE := hide hE; clear hE
            go_wp2
            go_ret
            exact ⟨ret_bool (by symm; rw [decide_eq_true_eq]; exact ⟨HO.out, by rw [HL.out, HL2.out], HIN.out, fun j hj => HV.out j (by have := HL.out; omega)⟩), HE.out⟩
      · go_enter Try.func63, Try.ntmps63
        go_wp2_with (first | (go_at_call 59; refine (iGamesOk_any _ _ _ rows _ HI.out).mono ?_; rintro e w1 ⟨rfl, hE1⟩) | (go_at_call 103; refine (allWithin_any _ _ _ days _ _ _ (HI2.out.ext hE1)).mono ?_; rw [decide_eq_false hin]; rintro e w2 ⟨rfl, hE2⟩))
        go_ret
        exact ⟨ret_bool (by symm; rw [decide_eq_false_iff_not]; exact fun hs => hin hs.2.2.1), hE1.trans hE2⟩
    · have hne : ((n2 : Int) != (n : Int)) = true := by rw [bne_iff_ne]; omega
      go_enter Try.func63, Try.ntmps63
      go_wp2_with (first | (go_at_call 59; refine (iGamesOk_any _ _ _ rows _ HI.out).mono ?_; rintro e w1 ⟨rfl, hE1⟩))
      go_ret
      exact ⟨ret_bool (by symm; rw [decide_eq_false_iff_not]; intro hs; have := hs.2.1; have := HL.out; have := HL2.out; omega), hE1⟩
  · go_enter Try.func63, Try.ntmps63
    go_wp2_with (first | (go_at_call 59; refine (iGamesOk_any _ _ _ rows _ HI.out).mono ?_; rintro e w1 ⟨rfl, hE1⟩))
    go_ret
    exact ⟨ret_bool (by symm; rw [decide_eq_false_iff_not]; exact fun hs => hok hs.1), hE1⟩
-- spec.IsSchedule
theorem sIsSchedule_any (A : Option Addr) (n c : Nat) (rows : List (List Int)) (A2 : Option Addr) (n2 c2 : Nat) (days : List Int) (w : World) (h : Grid w A n c rows) (h2 : Ints w A2 n2 c2 days) :
    Calls Try.prog 62 #[.slice A n c, .slice A2 n2 c2] w fun e w' => e = .returned (.bool (decide (isSchedule rows days))) ∧ Ext w w' := by
  have HL := hide h.len
  have HL2 := hide h2.len
  have HI := hide h
  have hle := h2.le
  have hmx := h2.max
  have hle1 := h.le
  have hmx1 := h.max
  by_cases hok : gamesOk rows
  · have h18 : n ≤ 18 := by have := HL.out; have := hok.1; omega
    have HO := hide hok
    by_cases hnn : n2 = n
    · subst hnn
      go_enter Try.func62, Try.ntmps62
      go_wp2_with (go_at_call 56; refine (sGamesOk_any _ _ _ rows _ HI.out).mono ?_; rintro e w' ⟨rfl, rfl⟩)
      go_loopw [21] (fun i wr => ∃ k : Nat, k ≤ n2 ∧ i = .int .i64 k ∧ Hid ((∀ d ∈ days.take k, 0 ≤ d ∧ d ≤ 17) ∧ freeTo rows days k) ∧ Ext w wr) (fun i _ => n2 - (intOf i).toNat)
      case atStart => exact ⟨0, Nat.zero_le _, rfl, hide ⟨by simp, fun j hj => absurd hj (Nat.not_lt_zero _)⟩, Ext.refl _⟩
      case round =>
        obtain ⟨i, hi, rfl, HV, hE⟩ := hrel
        by_cases hlt : i < n2
        · obtain ⟨b, off, B, d, r, rfl, hb, hx, hc, hir⟩ := (h.ext hE).get hlt
          obtain ⟨b1, o1, x, y, rfl, hb1, hx5, hy5, rfl, hcx, hcy⟩ := row_cells hir (hok.2 r (List.mem_of_getElem? hx))
          obtain ⟨b2, o2, di, rfl, hb2, hdi, wdi, hcd⟩ := (h2.ext hE).get hlt
          have HX := hide hx; have HD := hide hdi; have HE := hide hE
          clear hx hir hdi hE
          by_cases hin : 0 ≤ di ∧ di ≤ 17
          · go_wp2_with (go_at_call 67; refine (l01In_any _ _ _ _).mono ?_; rintro e w' ⟨rfl, rfl⟩)
            obtain ⟨w0, rfl⟩ : ∃ w0 : World, w0 = wr := ⟨_, rfl⟩
            go_loopw [33] (fun j w3 => ∃ k : Nat, k ≤ i ∧ j = .int .i64 k ∧ Hid (∀ k', k' < k → ¬ clash rows days i k') ∧ Ext w0 w3) (fun j _ => i - (intOf j).toNat)
            case atStart => exact ⟨0, Nat.zero_le _, rfl, hide (fun k hk => absurd hk (Nat.not_lt_zero _)), Ext.refl _⟩
            case round =>
              obtain ⟨k, hk, rfl, HW, hE3⟩ := hrel
              have hc3 := hE3.get hc
              have hcx3 := hE3.get hcx
              have hcy3 := hE3.get hcy
              by_cases hkl : k < i
              · obtain ⟨b', off', B', d', r', e1, hb', hx', hc', hir'⟩ := (h.ext (HE.out.trans hE3)).get (k := k) (by omega)
                cases e1
                obtain ⟨b4, o4, x', y', rfl, hb4, hx5', hy5', rfl, hcx', hcy'⟩ := row_cells hir' (hok.2 r' (List.mem_of_getElem? hx'))
                obtain ⟨b5, o5, dk, e2, hb5, hdk, wdk, hcdk⟩ := (h2.ext (HE.out.trans hE3)).get (k := k) (by omega)
                cases e2
                have HC := hide (clash_iff HD.out hdk HX.out hx')
                have HE3 := hide hE3
                have hkn : k < n2 := by omega
                clear hx' hir' hdk hE3 hcx hcy hcd hc
                by_cases hdd : di = dk
                · subst hdd
                  by_cases hxx : (x : Int) = (x' : Int)
                  · have hxb : ((x : Int) == (x' : Int)) = true := by simpa using hxx
                    have HCL := hide (HC.out.2 ⟨rfl, .inl hxx⟩); clear hxx
                    go_wp2
                    go_quiet (fail)
                    go_wp2
                    go_ret
                    exact ⟨ret_bool (by symm; rw [decide_eq_false_iff_not]; intro hs; exact hs.2.2.2 i (by have := HL.out; omega) k hkl HCL.out), (HE.out.trans HE3.out).drewN _⟩
                  · have hxb : ((x : Int) == (x' : Int)) = false := by simpa using hxx
                    by_cases hyy : (y : Int) = (y' : Int)
                    · have hyb : ((y : Int) == (y' : Int)) = true := by simpa using hyy
                      have HCL := hide (HC.out.2 ⟨rfl, .inr hyy⟩); clear hxx hyy
                      go_wp2
                      go_quiet (fail)
                      go_wp2
                      go_ret
                      exact ⟨ret_bool (by symm; rw [decide_eq_false_iff_not]; intro hs; exact hs.2.2.2 i (by have := HL.out; omega) k hkl HCL.out), (HE.out.trans HE3.out).drewN _⟩
                    · have hyb : ((y : Int) == (y' : Int)) = false := by simpa using hyy
                      have HCL := hide (fun hcl => (HC.out.1 hcl).2.elim hxx hyy); clear hxx hyy
                      go_wp2
                      go_quiet (fail)
                      go_wp2
                      go_roundw
                      case rel =>
                        refine ⟨k + 1, by omega, by go_num, hide (fun k' hk' => ?_), HE3.out.drewN _⟩
                        by_cases e : k' = k
                        · subst e; exact HCL.out
                        · exact HW.out k' (by omega)
                      case measure => (simp [intOf] <;> omega)
                · have hdb : (di == dk) = false := by simpa using hdd
                  have HCL := hide (fun hcl => hdd (HC.out.1 hcl).1); clear hdd
                  go_wp2
                  go_quiet (fail)
                  go_wp2
                  go_roundw
                  case rel =>
                    refine ⟨k + 1, by omega, by go_num, hide (fun k' hk' => ?_), HE3.out.drewN _⟩
                    by_cases e : k' = k
                    · subst e; exact HCL.out
                    · exact HW.out k' (by omega)
                  case measure => (simp [intOf] <;> omega)
              · have hke : k = i := by omega
                have HK := hide hke
                have HE3 := hide hE3
                clear hke hE3 hcx hcy hcd hcx3 hcy3 hc3
                go_wp2
                go_roundw
                case rel =>
                  refine ⟨i + 1, by omega, by go_num, hide ⟨?_, freeTo_succ HV.out.2 (fun k' hk' => HW.out k' (by rw [HK.out]; exact hk'))⟩, HE.out.trans HE3.out⟩
                  rw [take_snoc_of HD.out]
                  intro z hz
                  rcases List.mem_append.1 hz with hz | hz
                  · exact HV.out.1 z hz
                  · obtain rfl : z = di := by simpa using hz
                    exact hin
                case measure => (simp [intOf] <;> omega)
          · go_wp2_with (go_at_call 67; refine (l01In_any _ _ _ _).mono ?_; rintro e w' ⟨rfl, rfl⟩)
            go_ret
            exact ⟨ret_bool (by symm; rw [decide_eq_false_iff_not]; intro hs; exact hin (hs.2.2.1 di (List.mem_of_getElem? HD.out))), HE.out⟩
        · have hie : i = n2 := by omega
          subst hie
          have HE := hide hE; clear hE
          go_wp2
          go_ret
          exact ⟨ret_bool (by symm; rw [decide_eq_true_eq]; have hv := HV.out.1; rw [take_len HL2.out] at hv; exact ⟨HO.out, by rw [HL.out, HL2.out], hv, fun j hj => HV.out.2 j (by have := HL.out; omega)⟩), HE.out⟩
    · have hne : ((n2 : Int) != (n : Int)) = true := by rw [bne_iff_ne]; omega
      go_enter Try.func62, Try.ntmps62
      go_wp2_with (first | (go_at_call 56; refine (sGamesOk_any _ _ _ rows _ HI.out).mono ?_; rintro e w' ⟨rfl, rfl⟩))
      go_ret
      exact ⟨ret_bool (by symm; rw [decide_eq_false_iff_not]; intro hs; have := hs.2.1; have := HL.out; have := HL2.out; omega), Ext.refl _⟩
  · go_enter Try.func62, Try.ntmps62
    go_wp2_with (first | (go_at_call 56; refine (sGamesOk_any _ _ _ rows _ HI.out).mono ?_; rintro e w' ⟨rfl, rfl⟩))
    go_ret
    exact ⟨ret_bool (by symm; rw [decide_eq_false_iff_not]; exact fun hs => hok hs.1), Ext.refl _⟩

end Go.Proofs.Ytafhcnnbiheofaa
