/-
  Contracts of the functions on days of games.
-/
import Derived.Test.YtbaljgdepicigaaBase
import Derived.Test.YtbaljgdepicigaaMathA
import Derived.Test.YtbaljgdepicigaaMathD
import Derived.Test.YtbaljgdepicigaaLib
import Derived.Test.YtbaljgdepicigaaAid
import Derived.Test.YtbaljgdepicigaaGrid
import Derived.Test.YtbaljgdepicigaaLibF
namespace Go.Proofs.Ytbaljgdepicigaa
open Go.RowKit
set_option linter.unusedVariables false

-- impl.GamesOk
theorem gamesOk_pred (rows : List (List Int)) (w : World) : PredG 105 #[] (fun g => !decide (gameOk g)) rows w := by
  intro W B d r _ hi hE
  have HI := hide hi; clear hi hE
  by_cases h2 : r.length = 2
  · have h2' : ((r.length : Int) != 2) = false := by simp [h2]
    have HF := hide (show (!decide (gameOk r)) = !decide (∀ x ∈ r, 0 ≤ x ∧ x ≤ 5) by simp only [gameOk, h2, true_and])
    clear h2
    go_enter Try.func105, Try.ntmps105
    go_wp2_with (go_at_call 88; refine (allWithin_any _ _ _ r _ _ _ HI.out).mono ?_; rintro e w1 ⟨rfl, hE1⟩)
    go_ret
    exact ⟨ret_bool HF.out.symm, hE1⟩
  · have h2' : ((r.length : Int) != 2) = true := by rw [bne_iff_ne]; omega
    have HF := hide (show (!decide (gameOk r)) = true by simp [gameOk, h2])
    clear h2
    go_enter Try.func105, Try.ntmps105
    go_wp2
    go_ret
    exact ⟨ret_bool HF.out.symm, Ext.refl _⟩
theorem iGamesOk_any (A : Option Addr) (n c : Nat) (rows : List (List Int)) (w : World) (h : Grid w A n c rows) :
    Calls Try.prog 33 #[.slice A n c] w fun e w' => e = .returned (.bool (decide (gamesOk rows))) ∧ Ext w w' := by
  have HL := hide h.len
  have HI := hide h; clear h
  have eg : Enters Try.prog 105 := enters_of Try.func105 (by kernel_rfl) rfl
  have EG := hide eg; clear eg
  by_cases h18 : n ≤ 18
  · have h18' : decide ((n : Int) ≤ 18) = true := by simp; omega
    have HF := hide (gamesOk_yes (rows := rows) (by have := HL.out; omega))
    go_enter Try.func33, Try.ntmps33
    go_wp2_with (go_at_call 104; refine (ContainsFuncG_any _ _ (fun g => !decide (gameOk g)) EG.out _ _ _ rows _ HI.out (gamesOk_pred rows _)).mono ?_; rintro e w1 ⟨rfl, hE1⟩)
    go_ret
    exact ⟨ret_bool HF.out.symm, hE1⟩
  · have h18' : decide ((n : Int) ≤ 18) = false := by simp; omega
    have HF := hide (gamesOk_no (rows := rows) (by have := HL.out; omega))
    go_enter Try.func33, Try.ntmps33
    go_wp2
    go_ret
    exact ⟨ret_bool HF.out.symm, Ext.refl _⟩
-- rows of two
theorem row_cells {w : World} {B : Option Addr} {d : Nat} {r : List Int} (hi : Ints w B r.length d r) (h : gameOk r) :
    ∃ b1 o1 x y, B = some ⟨b1, o1, none⟩ ∧ b1 < w.heap.size ∧ x ≤ 5 ∧ y ≤ 5 ∧ r = [((x : Nat) : Int), ((y : Nat) : Int)] ∧ w.cell? ⟨b1, o1, none⟩ = some (.int .i64 (x : Int)) ∧ w.cell? ⟨b1, o1 + 1, none⟩ = some (.int .i64 (y : Int)) := by
  obtain ⟨x, y, rfl, hx, hy⟩ := gameOk_two h
  obtain ⟨b1, o1, x', rfl, hb1, hx1, wx, hc1⟩ := hi.get (k := 0) (by simp)
  obtain ⟨b2, o2, y', e2, hb2, hy1, wy, hc2⟩ := hi.get (k := 1) (by simp)
  cases e2
  simp at hx1 hy1
  subst hx1
  subst hy1
  exact ⟨b1, o1, x, y, rfl, hb1, hx, hy, rfl, by simpa using hc1, hc2⟩
-- impl.BusiestTeam
theorem zeros6 : #[Value.int .i64 0, .int .i64 0, .int .i64 0, .int .i64 0, .int .i64 0, .int .i64 0] = Array.replicate 6 (Value.int .i64 0) := rfl
/-- An array of the call's own as a slice. -/
theorem Ow.to_ints {w : World} {base E : Nat} {A : Option Addr} {n c : Nat} {xs : List Int} (h : Ow w base E A n c (xs.map (Value.int .i64))) (hw : ∀ x ∈ xs, I64 x) : Ints w A n c xs := ⟨h.rd, hw⟩
theorem counts_i64 {m : Nat} {l : List Int} (h : l.length ≤ 100) : ∀ x ∈ counts m l, I64 x := fun x hx => by
  have := counts_nonneg m l x hx
  exact ⟨by omega, by omega⟩
theorem iBusiestTeam_any (A : Option Addr) (n c : Nat) (rows : List (List Int)) (w : World) (h : Grid w A n c rows) :
    Calls Try.prog 32 #[.slice A n c] w fun e w' => e = .returned (.int .i64 (busiestTeam rows)) ∧ Ext w w' := by
  have HL := hide h.len
  have HI := hide h
  have hle := h.le
  by_cases hok : gamesOk rows
  · have HF := hide (show busiestTeam rows = busiest rows by rw [busiestTeam, if_pos hok])
    have HO := hide hok
    have h18 : n ≤ 18 := by have := h.len; have := hok.1; omega
    have hbb := busiest_bound rows
    go_enter Try.func32, Try.ntmps32
    go_wp2_with (go_at_call 33; refine (iGamesOk_any _ _ _ rows _ HI.out).mono ?_; rintro e w1 ⟨rfl, hE1⟩)
    have HE1 := hide hE1; clear hE1
    go_loopw [3, 11] (fun m i wr => ∃ (s : Nat) (v : Int), s ≤ 2 ∧ i = .int .i64 s ∧ m = .int .i64 v ∧ 0 ≤ v ∧ v ≤ 18 ∧ Hid (v = if s = 0 then 0 else if s = 1 then maxL (counts 6 (side 0 rows)) else busiest rows) ∧ Ext w wr) (fun _ i _ => 2 - (intOf i).toNat)
    case atStart => exact ⟨0, 0, by omega, rfl, rfl, by omega, by omega, hide rfl, HE1.out⟩
    case round =>
      obtain ⟨s, v, hs, rfl, rfl, hv0, hv18, HV, hE⟩ := hrel
      by_cases hlt : s < 2
      · have HE := hide hE; clear hE
        have h1 := Ow.fill wr (base := wr.heap.size) (E := 97) (.int .i64 0) 6 (by omega) (Nat.le_refl _)
        rw [← zeros6, show List.replicate 6 (Value.int .i64 0) = (counts 6 (side s (rows.take 0))).map (Value.int .i64) by simp [side, counts_nil]] at h1
        have H1 := hide h1; clear h1
        go_wp2
        obtain ⟨w0, rfl⟩ : ∃ w0 : World, w0 = wr := ⟨_, rfl⟩
        go_loopw [16] (fun i w2 => ∃ k : Nat, k ≤ n ∧ i = .int .i64 k ∧ Ow w2 w0.heap.size 97 (some ⟨w0.heap.size, 0, none⟩) 6 6 ((counts 6 (side s (rows.take k))).map (Value.int .i64)) ∧ Ext w0 w2) (fun i _ => n - (intOf i).toNat)
        case atStart => exact ⟨0, Nat.zero_le _, rfl, H1.out, Ext.one _ _⟩
        case round =>
          obtain ⟨k, hk, rfl, ho, hE2⟩ := hrel
          by_cases hlk : k < n
          · obtain ⟨b, off, B, d, r, rfl, hb, hx, hc, hi⟩ := (h.ext (HE.out.trans hE2)).get hlk
            have hr := hok.2 r (List.mem_of_getElem? hx)
            obtain ⟨b1, o1, x, y, rfl, hb1, hx5, hy5, rfl, hcx, hcy⟩ := row_cells hi hr
            have hside := side_snoc s hx
            obtain ⟨t, ht, hts, hct⟩ : ∃ t : Nat, t ≤ 5 ∧ [(x : Int), (y : Int)].getD s 0 = (t : Int) ∧ wr.cell? ⟨b1, o1 + s, none⟩ = some (.int .i64 (t : Int)) := by
              match s, hlt with
              | 0, _ => exact ⟨x, hx5, rfl, by simpa using hcx⟩
              | 1, _ => exact ⟨y, hy5, rfl, hcy⟩
            rw [hts] at hside
            obtain ⟨b3, o3, u, e3, hb3, hl3, hu, hcu, hfu⟩ := ho.get (k := t) (by omega)
            cases e3
            rw [List.getElem?_map, counts_get _ (by omega)] at hu
            cases hu
            have hu1 := cntL_bound (side s (rows.take k)) t
            rw [side_len] at hu1
            have hlen : (rows.take k).length ≤ k := List.length_take_le _ _
            have hs1 := ho.store (k := t) rfl (by omega) (.int .i64 (cntL (side s (rows.take k)) t + 1))
            rw [← List.map_set, counts_snoc _ (by omega), ← hside] at hs1
            simp only [Nat.zero_add] at hs1 hcu hfu
            have HS := hide hs1; have HE2 := hide hE2
            clear hs1 hE2 ho hi hr hx hside hts hcx hcy
            generalize cntL (side s (rows.take k)) t = cu at *
            have hs2' : (s : Int) < 2 := by omega
            go_wp2
            go_roundw
            case rel => exact ⟨k + 1, by omega, by go_num, HS.out, HE2.out.setCell (Nat.le_refl _) _⟩
            case measure => (simp [intOf] <;> omega)
          · have hke : k = n := by omega
            subst hke
            rw [take_len HL.out] at ho
            have HO2 := hide ho; have HE2 := hide hE2; clear ho hE2
            have hlr : (side s rows).length ≤ 100 := by rw [side_len]; have := HL.out; omega
            go_wp2_with (go_at_call 103; refine (Max_any _ _ _ (counts 6 (side s rows)) _ (HO2.out.to_ints (counts_i64 hlr)) (by omega) (fun x hx => (counts_nonneg 6 _ x hx).1)).mono ?_; rintro e w' ⟨rfl, rfl⟩)
            go_roundw
            case rel =>
              have hbd : maxL (counts 6 (side s rows)) ≤ 18 := maxL_le (by omega) fun x hx => by have := (counts_nonneg 6 _ x hx).2; rw [side_len] at this; have := HL.out; omega
              have hg0 := maxL_ge (counts 6 (side s rows))
              refine ⟨s + 1, max v (maxL (counts 6 (side s rows))), by omega, by go_num, congrArg _ (by split <;> omega), by omega, by omega, hide ?_, HE.out.trans HE2.out⟩
              have hv := HV.out
              match s, hlt with
              | 0, _ => simp at hv ⊢; subst hv; omega
              | 1, _ => simp at hv ⊢; subst hv; rfl
            case measure => (simp [intOf] <;> omega)
      · have hse : s = 2 := by omega
        subst hse
        have HE := hide hE; clear hE
        go_wp2
        go_ret
        exact ⟨ret_int (by have := HV.out; rw [HF.out]; simpa using this), HE.out⟩
  · have HF := hide (show busiestTeam rows = -1 by rw [busiestTeam, if_neg hok])
    go_enter Try.func32, Try.ntmps32
    go_wp2_with (go_at_call 33; refine (iGamesOk_any _ _ _ rows _ HI.out).mono ?_; rintro e w1 ⟨rfl, hE1⟩)
    go_ret
    exact ⟨ret_int HF.out.symm, hE1⟩
-- impl.FewestDays
theorem iFewestDays_any (A : Option Addr) (n c : Nat) (rows : List (List Int)) (w : World) (h : Grid w A n c rows) :
    Calls Try.prog 35 #[.slice A n c] w fun e w' => e = .returned (.int .i64 (busiestTeam rows)) ∧ Ext w w' := by
  have HI := hide h; clear h
  go_enter Try.func35, Try.ntmps35
  go_wp2_with (go_at_call 32; refine (iBusiestTeam_any _ _ _ rows _ HI.out).mono ?_; rintro e w1 ⟨rfl, hE1⟩)
  go_ret
  exact ⟨rfl, hE1⟩
-- impl.IsSchedule
theorem iIsSchedule_any (A : Option Addr) (n c : Nat) (rows : List (List Int)) (A2 : Option Addr) (n2 c2 : Nat) (days : List Int) (w : World) (h : Grid w A n c rows) (h2 : Ints w A2 n2 c2 days) :
    Calls Try.prog 34 #[.slice A n c, .slice A2 n2 c2] w fun e w' => e = .returned (.bool (decide (isSchedule rows days))) ∧ Ext w w' := by
  have HL := hide h.len
  have HL2 := hide h2.len
  have HI := hide h
  have HI2 := hide h2
  have hle := h.le
  have hmx := h.max
  by_cases hok : gamesOk rows
  · have h18 : n ≤ 18 := by have := HL.out; have := hok.1; omega
    have HO := hide hok
    by_cases hnn : n2 = n
    · subst hnn
      by_cases hin : ∀ d ∈ days, 0 ≤ d ∧ d ≤ 17
      · have HIN := hide hin
        go_enter Try.func34, Try.ntmps34
        go_wp2_with (first | (go_at_call 33; refine (iGamesOk_any _ _ _ rows _ HI.out).mono ?_; rintro e w1 ⟨rfl, hE1⟩) | (go_at_call 88; refine (allWithin_any _ _ _ days _ _ _ (HI2.out.ext hE1)).mono ?_; rw [decide_eq_true HIN.out]; rintro e w2 ⟨rfl, hE2⟩))
        have HE0 := hide (hE1.trans hE2); clear hE1 hE2 hin
        go_loopw [26] (fun i wr => ∃ k : Nat, k ≤ n2 ∧ i = .int .i64 k ∧ Hid (freeTo rows days k) ∧ Ext w wr) (fun i _ => n2 - (intOf i).toNat)
        case atStart => exact ⟨0, Nat.zero_le _, rfl, hide (fun j hj => absurd hj (Nat.not_lt_zero _)), HE0.out⟩
        case round =>
          obtain ⟨i, hi, rfl, HV, hE⟩ := hrel
          by_cases hlt : i < n2
          · obtain ⟨b, off, B, d, r, rfl, hb, hx, hc, hir⟩ := (h.ext hE).get hlt
            obtain ⟨b1, o1, x, y, rfl, hb1, hx5, hy5, rfl, hcx, hcy⟩ := row_cells hir (hok.2 r (List.mem_of_getElem? hx))
            obtain ⟨b2, o2, di, rfl, hb2, hdi, wdi, hcd⟩ := (h2.ext hE).get hlt
            have HX := hide hx; have HD := hide hdi; have HE := hide hE
            clear hx hir hdi hE
            go_wp2
            obtain ⟨w0, rfl⟩ : ∃ w0 : World, w0 = wr := ⟨_, rfl⟩
            go_loopw [35] (fun j w3 => ∃ k : Nat, k ≤ i ∧ j = .int .i64 k ∧ Hid (∀ k', k' < k → ¬ clash rows days i k') ∧ Ext w0 w3) (fun j _ => i - (intOf j).toNat)
            case atStart => exact ⟨0, Nat.zero_le _, rfl, hide (fun k hk => absurd hk (Nat.not_lt_zero _)), Ext.refl _⟩
            case round =>
              obtain ⟨k, hk, rfl, HW, hE3⟩ := hrel
              have hcx3 := hE3.get hcx
              have hcy3 := hE3.get hcy
              have hcd3 := hE3.get hcd
              by_cases hkl : k < i
              · obtain ⟨b', off', B', d', r', e1, hb', hx', hc', hir'⟩ := (h.ext (HE.out.trans hE3)).get (k := k) (by omega)
                cases e1
                obtain ⟨b4, o4, x', y', rfl, hb4, hx5', hy5', rfl, hcx', hcy'⟩ := row_cells hir' (hok.2 r' (List.mem_of_getElem? hx'))
                obtain ⟨b5, o5, dk, e2, hb5, hdk, wdk, hcdk⟩ := (h2.ext (HE.out.trans hE3)).get (k := k) (by omega)
                cases e2
                have HC := hide (clash_iff HD.out hdk HX.out hx')
                have HE3 := hide hE3
                have hkn : k < n2 := by omega
                clear hx' hir' hdk hE3 hcx hcy hcd
                by_cases hdd : di = dk
                · subst hdd
                  by_cases hxx : (x : Int) = (x' : Int)
                  · have hxb : ((x : Int) == (x' : Int)) = true := by simpa using hxx
                    have HCL := hide (HC.out.2 ⟨rfl, .inl hxx⟩); clear hxx
                    go_wp2
                    go_quiet (fail)
                    go_wp2
                    go_ret
                    exact ⟨ret_bool (by symm; rw [decide_eq_false_iff_not]; intro hs; exact hs.2.2.2 i (by have := HL.out; omega) k hkl HCL.out), (HE.out.trans HE3.out).drewN _⟩
                  · have hxb : ((x : Int) == (x' : Int)) = false := by simpa using hxx
                    by_cases hyy : (y : Int) = (y' : Int)
                    · have hyb : ((y : Int) == (y' : Int)) = true := by simpa using hyy
                      have HCL := hide (HC.out.2 ⟨rfl, .inr hyy⟩); clear hxx hyy
                      go_wp2
                      go_quiet (fail)
                      go_wp2
                      go_ret
                      exact ⟨ret_bool (by symm; rw [decide_eq_false_iff_not]; intro hs; exact hs.2.2.2 i (by have := HL.out; omega) k hkl HCL.out), (HE.out.trans HE3.out).drewN _⟩
                    · have hyb : ((y : Int) == (y' : Int)) = false := by simpa using hyy
                      have HCL := hide (fun hcl => (HC.out.1 hcl).2.elim hxx hyy); clear hxx hyy
                      go_wp2
                      go_quiet (fail)
                      go_wp2
                      go_roundw
                      case rel =>
                        refine ⟨k + 1, by omega, by go_num, hide (fun k' hk' => ?_), HE3.out.drewN _⟩
                        by_cases e : k' = k
                        · subst e; exact HCL.out
                        · exact HW.out k' (by omega)
                      case measure => (simp [intOf] <;> omega)
                · have hdb : (di == dk) = false := by simpa using hdd
                  have HCL := hide (fun hcl => hdd (HC.out.1 hcl).1); clear hdd
                  go_wp2
                  go_quiet (fail)
                  go_wp2
                  go_roundw
                  case rel =>
                    refine ⟨k + 1, by omega, by go_num, hide (fun k' hk' => ?_), HE3.out.drewN _⟩
                    by_cases e : k' = k
                    · subst e; exact HCL.out
                    · exact HW.out k' (by omega)
                  case measure => (simp [intOf] <;> omega)
              · have hke : k = i := by omega
                have HK := hide hke
                have HE3 := hide hE3
                clear hke hE3 hcx hcy hcd hcx3 hcy3 hcd3
                go_wp2
                go_roundw
                case rel => exact ⟨i + 1, by omega, by go_num, hide (freeTo_succ HV.out (fun k' hk' => HW.out k' (by rw [HK.out]; exact hk'))), HE.out.trans HE3.out⟩
                case measure => (simp [intOf] <;> omega)
          · have hie : i = n2 := by omega
            subst hie
            have HE := hide hE; clear hE
            go_wp2
            go_ret
            exact ⟨ret_bool (by symm; rw [decide_eq_true_eq]; exact ⟨HO.out, by rw [HL.out, HL2.out], HIN.out, fun j hj => HV.out j (by have := HL.out; omega)⟩), HE.out⟩
      · go_enter Try.func34, Try.ntmps34
        go_wp2_with (first | (go_at_call 33; refine (iGamesOk_any _ _ _ rows _ HI.out).mono ?_; rintro e w1 ⟨rfl, hE1⟩) | (go_at_call 88; refine (allWithin_any _ _ _ days _ _ _ (HI2.out.ext hE1)).mono ?_; rw [decide_eq_false hin]; rintro e w2 ⟨rfl, hE2⟩))
        go_ret
        exact ⟨ret_bool (by symm; rw [decide_eq_false_iff_not]; exact fun hs => hin hs.2.2.1), hE1.trans hE2⟩
    · have hne : ((n2 : Int) != (n : Int)) = true := by rw [bne_iff_ne]; omega
      go_enter Try.func34, Try.ntmps34
      go_wp2_with (first | (go_at_call 33; refine (iGamesOk_any _ _ _ rows _ HI.out).mono ?_; rintro e w1 ⟨rfl, hE1⟩))
      go_ret
      exact ⟨ret_bool (by symm; rw [decide_eq_false_iff_not]; intro hs; have := hs.2.1; have := HL.out; have := HL2.out; omega), hE1⟩
  · go_enter Try.func34, Try.ntmps34
    go_wp2_with (first | (go_at_call 33; refine (iGamesOk_any _ _ _ rows _ HI.out).mono ?_; rintro e w1 ⟨rfl, hE1⟩))
    go_ret
    exact ⟨ret_bool (by symm; rw [decide_eq_false_iff_not]; exact fun hs => hok hs.1), hE1⟩

end Go.Proofs.Ytbaljgdepicigaa
