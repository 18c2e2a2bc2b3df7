/-
  Contracts of the functions on days of games: games of a day, courts, moves.
-/
import Derived.Deep.RegionLaw
import Derived.Test.YtfmdifhdmanmfaaBase
import Derived.Test.YtfmdifhdmanmfaaMathA
import Derived.Test.YtfmdifhdmanmfaaMathD
import Derived.Test.YtfmdifhdmanmfaaLib
import Derived.Test.YtfmdifhdmanmfaaAid
import Derived.Test.YtfmdifhdmanmfaaGrid
import Derived.Test.YtfmdifhdmanmfaaLibF
import Derived.Test.YtfmdifhdmanmfaaDays
namespace Go.Proofs.Ytfmdifhdmanmfaa
open Go.RowKit
set_option linter.unusedVariables false

-- impl.GamesOn
theorem gamesOn_yes {rows : List (List Int)} {days : List Int} (day : Int) {n : Nat} (h : isSchedule rows days) (hl : rows.length = n) : gamesOn rows days day = onTo rows days day n := by rw [gamesOn, if_pos h, hl]
theorem gamesOn_no {rows : List (List Int)} {days : List Int} (day : Int) (h : ¬ isSchedule rows days) : gamesOn rows days day = [] := by rw [gamesOn, if_neg h]
theorem iGamesOn_any (A : Option Addr) (n c : Nat) (rows : List (List Int)) (A2 : Option Addr) (n2 c2 : Nat) (days : List Int) (day : Int) (w : World) (h : Grid w A n c rows) (h2 : Ints w A2 n2 c2 days) :
    Calls Try.prog 34 #[.slice A n c, .slice A2 n2 c2, .int .i64 day] w (RetG w (gamesOn rows days day)) := by
  have HL := hide h.len
  have HL2 := hide h2.len
  have HI := hide h
  have HI2 := hide h2
  have hle := h.le
  have hmx := h.max
  by_cases hok : isSchedule rows days
  · have h18 : n ≤ 18 := by have := HL.out; have := hok.1.1; omega
    have hnn : n2 = n := by have := hok.2.1; have := HL.out; have := HL2.out; omega
    subst hnn
    have HF := hide (gamesOn_yes (rows := rows) (days := days) day hok HL.out)
    go_enter Try.func34, Try.ntmps34
    go_wp2_with (go_at_call 24; refine (iIsSchedule_any _ _ _ rows _ _ _ days _ HI.out HI2.out).mono ?_; rw [decide_eq_true hok]; rintro e w1 ⟨rfl, hE1⟩)
    have HE0 := hide hE1; clear hE1
    go_loopw [7, 16] (fun o i wr => ∃ (k : Nat) (Ao : Option Addr) (co : Nat), k ≤ n2 ∧ i = .int .i64 k ∧ o = .slice Ao (onTo rows days day k).length co ∧ OwG wr w.heap.size wr.heap.size Ao (onTo rows days day k).length co (onTo rows days day k) ∧ Ext w wr) (fun _ i _ => n2 - (intOf i).toNat)
    case atStart => exact ⟨0, none, 0, Nat.zero_le _, rfl, rfl, OwG.nil _ _ _, HE0.out⟩
    case round =>
      obtain ⟨k, Ao, co, hk, rfl, rfl, ho, hE⟩ := hrel
      by_cases hlt : k < n2
      · obtain ⟨b, off, B, d, r, rfl, hb, hx, hc, hir⟩ := (h.ext hE).get hlt
        obtain ⟨b2, o2, di, rfl, hb2, hdi, wdi, hcd⟩ := (h2.ext hE).get hlt
        have hrl : r.length ≤ 1073741824 := by have := (hok.1.2 r (List.mem_of_getElem? hx)).1; omega
        have HX := hide hx; have HD := hide hdi; have HE := hide hE; have HIR := hide hir; have HO := hide ho
        have HLN := hide (onTo_len rows days day k)
        clear hx hir hdi hE ho
        by_cases hdd : di = day
        · have hdb : (di == day) = true := by simpa using hdd
          have HY := hide (onTo_yes (hdd ▸ HD.out) HX.out); clear hdd
          generalize onTo rows days day k = L at *
          go_wp2_with (first
            | (go_at_call 51; refine (Clone_any _ _ _ r _ HIR.out hrl).mono ?_; rintro e w1 ⟨B1, d1, rfl, hoB, hEB⟩)
            | (at_builtin; refine push_row (w0 := wr) rfl (.tmp 27) (.tmp 30) rfl rfl HO.out (hEB.alloc _) (hoB.ext (Ext.one _ _)) w1.heap.size rfl (by simp) (by have := HLN.out; omega) HE.out.size ?_; intro A1 c1 w3 hg3 hz3))
          go_roundw
          case rel =>
            refine ⟨k + 1, A1, c1, by omega, by go_num, ?_, ?_, hz3 w ((HE.out.trans hEB).alloc _) (Nat.le_refl _)⟩
            · rw [HY.out]; simp
            · rw [HY.out]; simpa using hg3
          case measure => (simp [intOf] <;> omega)
        · have hdb : (di == day) = false := by simpa using hdd
          have HY := hide (onTo_no (rows := rows) HD.out hdd); clear hdd
          go_wp2
          go_roundw
          case rel => exact ⟨k + 1, Ao, co, by omega, by go_num, by rw [HY.out], by rw [HY.out]; exact HO.out, HE.out⟩
          case measure => (simp [intOf] <;> omega)
      · have hke : k = n2 := by omega
        subst hke
        have HO := hide ho; have HE := hide hE; clear hE ho
        go_wp2
        go_ret
        rw [HF.out]
        exact RetG.mk rfl HO.out HE.out
  · have HF := hide (gamesOn_no (rows := rows) (days := days) day hok)
    go_enter Try.func34, Try.ntmps34
    go_wp2_with (go_at_call 24; refine (iIsSchedule_any _ _ _ rows _ _ _ days _ HI.out HI2.out).mono ?_; rw [decide_eq_false hok]; rintro e w1 ⟨rfl, hE1⟩)
    go_ret
    rw [HF.out]
    exact RetG.mk rfl (OwG.nil _ _ _) hE1
theorem gamesOn_tot (rows : List (List Int)) (days : List Int) (day : Int) : tot (gamesOn rows days day) ≤ 36 := by
  have h1 := (gamesOn_len rows days day).1
  by_cases hok : isSchedule rows days
  · have h2 := tot_le (rows := gamesOn rows days day) (m := 2) (by
      intro r hr
      rw [gamesOn, if_pos hok] at hr
      have := (hok.1.2 r (onTo_mem (Nat.le_refl _) r hr)).1
      omega)
    omega
  · rw [gamesOn, if_neg hok]; simp [tot]
-- spec.GamesOn
theorem lit_nil_rows (w : World) {lo hi : Nat} (hb : lo ≤ w.heap.size) (hh : w.heap.size < hi) : OwG (w.alloc (.cells #[] 28)) lo hi (some ⟨w.heap.size, 0, none⟩) 0 0 [] :=
  ⟨[], ⟨⟨rfl, Nat.le_refl _, by omega, .inr ⟨w.heap.size, 0, #[], rfl, hb, heap_alloc_new w _, by simp, fun k v hk => by simp at hk⟩⟩, fun k hk => by cases hk; exact hh, rfl, fun i x r hx => by simp at hx, fun i j x y _ hx => by simp at hx⟩⟩
theorem sGamesOn_any (A : Option Addr) (n c : Nat) (rows : List (List Int)) (A2 : Option Addr) (n2 c2 : Nat) (days : List Int) (day : Int) (w : World) (h : Grid w A n c rows) (h2 : Ints w A2 n2 c2 days) :
    Calls Try.prog 33 #[.slice A n c, .slice A2 n2 c2, .int .i64 day] w (RetG w (gamesOn rows days day)) := by
  have HL := hide h.len
  have HL2 := hide h2.len
  have HI := hide h
  have HI2 := hide h2
  have hle := h2.le
  have hmx := h2.max
  by_cases hok : isSchedule rows days
  · have h18 : n ≤ 18 := by have := HL.out; have := hok.1.1; omega
    have hnn : n2 = n := by have := hok.2.1; have := HL.out; have := HL2.out; omega
    subst hnn
    have HF := hide (gamesOn_yes (rows := rows) (days := days) day hok HL.out)
    go_enter Try.func33, Try.ntmps33
    go_wp2_with (go_at_call 22; refine (sIsSchedule_any _ _ _ rows _ _ _ days _ HI.out HI2.out).mono ?_; rw [decide_eq_true hok]; rintro e w1 ⟨rfl, hE1⟩)
    have HE0 := hide (hE1.alloc (.cells #[] 28))
    have HO0 := hide (lit_nil_rows w1 (lo := w.heap.size) (hi := (w1.alloc (.cells #[] 28)).heap.size) hE1.size (by simp)); clear hE1
    go_loopw [7, 17] (fun o i wr => ∃ (k : Nat) (Ao : Option Addr) (co : Nat), k ≤ n2 ∧ i = .int .i64 k ∧ o = .slice Ao (onTo rows days day k).length co ∧ OwG wr w.heap.size wr.heap.size Ao (onTo rows days day k).length co (onTo rows days day k) ∧ Ext w wr) (fun _ i _ => n2 - (intOf i).toNat)
    case atStart => exact ⟨0, _, _, Nat.zero_le _, rfl, rfl, HO0.out, HE0.out⟩
    case round =>
      obtain ⟨k, Ao, co, hk, rfl, rfl, ho, hE⟩ := hrel
      by_cases hlt : k < n2
      · obtain ⟨b, off, B, d, r, rfl, hb, hx, hc, hir⟩ := (h.ext hE).get hlt
        obtain ⟨b1, o1, x, y, rfl, hb1, hx5, hy5, rfl, hcx, hcy⟩ := row_cells hir (hok.1.2 r (List.mem_of_getElem? hx))
        obtain ⟨b2, o2, di, rfl, hb2, hdi, wdi, hcd⟩ := (h2.ext hE).get hlt
        have HX := hide hx; have HD := hide hdi; have HE := hide hE; have HO := hide ho
        have HLN := hide (onTo_len rows days day k)
        clear hx hir hdi hE ho
        by_cases hdd : di = day
        · have hdb : (di == day) = true := by simpa using hdd
          have HY := hide (onTo_yes (hdd ▸ HD.out) HX.out); clear hdd
          generalize onTo rows days day k = L at *
          have HEB := hide ((Ext.one wr.drew (.cells #[.int .i64 (x : Int), .int .i64 (y : Int)] 3)))
          go_wp2
          go_region_law (refine step_push_row (w0 := wr.drew) rfl (.tmp 25) (.tmp 39) rfl rfl (HO.out.ext ((Ext.refl _).drew)) (HEB.out.alloc _) ((ints_lit2 _ (x : Int) (y : Int) ⟨by omega, by omega⟩ ⟨by omega, by omega⟩ (Nat.le_refl _)).ext (Ext.one _ _)) (wr.heap.size + 1) rfl (by simp) (by have := HLN.out; omega) HE.out.size ?_; intro A1 c1 w3 hg3 hz3)
          all_goals
            go_wp2
            go_roundw
            case rel =>
              refine ⟨k + 1, A1, c1, by omega, by go_num, ?_, ?_, hz3 w (((HE.out.drew).trans HEB.out).alloc _) (Nat.le_refl _)⟩
              · rw [HY.out]; simp
              · rw [HY.out]; simpa using hg3
            case measure => (simp [intOf] <;> omega)
        · have hdb : (di == day) = false := by simpa using hdd
          have HY := hide (onTo_no (rows := rows) HD.out hdd); clear hdd
          go_wp2
          go_roundw
          case rel => exact ⟨k + 1, Ao, co, by omega, by go_num, by rw [HY.out], by rw [HY.out]; exact HO.out, HE.out⟩
          case measure => (simp [intOf] <;> omega)
      · have hke : k = n2 := by omega
        subst hke
        have HO := hide ho; have HE := hide hE; clear hE ho
        go_wp2
        go_ret
        rw [HF.out]
        exact RetG.mk rfl HO.out HE.out
  · have HF := hide (gamesOn_no (rows := rows) (days := days) day hok)
    go_enter Try.func33, Try.ntmps33
    go_wp2_with (go_at_call 22; refine (sIsSchedule_any _ _ _ rows _ _ _ days _ HI.out HI2.out).mono ?_; rw [decide_eq_false hok]; rintro e w1 ⟨rfl, hE1⟩)
    go_ret
    rw [HF.out]
    exact RetG.mk rfl (OwG.nil _ _ _) hE1
-- law GamesOn
theorem law_GamesOn (A0 : Option Addr) (n0 c0 : Nat) (xs0 : List (List Int)) (A1 : Option Addr) (n1 c1 : Nat) (xs1 : List Int) (a2 : Int) (w : World) (h0 : Grid w A0 n0 c0 xs0) (h1 : Ints w A1 n1 c1 xs1) (hi2 : I64 a2) :
    Calls Try.prog 9 #[.slice A0 n0 c0, .slice A1 n1 c1, .int .i64 a2] w fun e w' => e = .returned (.bool true) ∧ Ext w w' := by
  have hl0 := h0.len; subst hl0
  have HI0 := hide h0; clear h0
  have hl1 := h1.len; subst hl1
  have HI1 := hide h1; clear h1
  by_cases hs1 : xs1.length ≤ 1048576
  · skip
    by_cases hs0 : (bulk xs0 : Int) ≤ 1048576
    · skip
      have hb0 : bulk xs0 ≤ 1048576 := by omega
      have hbt0 : tot xs0 ≤ 1048576 := by have h := hb0; unfold bulk at h; omega
      have hln := gamesOn_tot xs0 xs1 a2
      go_enter Try.func9, Try.ntmps9
      have HSZ := hide (szLeft_yes (n := bulk xs0) (left := 1048576) (by omega))
      go_wp2_with fail
      refine (szIntSS_any _ _ _ xs0 _ _ HI0.out (by omega) (by omega)).mono ?_; rw [HSZ.out]; rintro e w' ⟨rfl, rfl⟩
      clear HSZ
      go_wp2_with fail
      refine (toIntSS_any _ _ _ xs0 _ HI0.out hb0).mono ?_; rintro e w1 ⟨At1, ct1, rfl, ho, hE⟩
      have hz1 := hE.size
      have HE := hide hE
      clear hE
      have HOt1 := hide ho; clear ho
      go_wp2_with fail
      refine (toIntS_any _ _ _ xs1 _ (HI1.out.ext HE.out) (by omega)).mono ?_; rintro e w2 ⟨At2, ct2, rfl, ho, hE⟩
      replace HOt1 := hide (HOt1.out.ext hE)
      have hz2 := hE.size
      replace HE := hide (HE.out.trans hE)
      clear hE
      have HOt2 := hide (InI.mk_ ho); clear ho
      go_wp2_with fail
      refine (sGamesOn_any _ _ _ xs0 _ _ _ xs1 a2 _ HOt1.out.grid HOt2.out.ints).mono ?_; rintro e w3 ⟨Aw0, cw0, rfl, ho0, hE⟩
      replace HOt1 := hide (HOt1.out.ext hE)
      replace HOt2 := hide (HOt2.out.ext hE)
      have hz3 := hE.size
      replace HE := hide (HE.out.trans hE)
      clear hE
      have HOw0 := hide ho0; clear ho0
      go_wp2_with fail
      refine (toIntSS_any _ _ _ xs0 _ (HI0.out.ext HE.out) hb0).mono ?_; rintro e w4 ⟨Ax0, cx0, rfl, ho, hE⟩
      replace HOt1 := hide (HOt1.out.ext hE)
      replace HOt2 := hide (HOt2.out.ext hE)
      replace HOw0 := hide (HOw0.out.ext hE)
      have hz4 := hE.size
      replace HE := hide (HE.out.trans hE)
      clear hE
      have HOx0 := hide ho; clear ho
      go_wp2_with fail
      refine (toIntS_any _ _ _ xs1 _ (HI1.out.ext HE.out) (by omega)).mono ?_; rintro e w5 ⟨Ax1, cx1, rfl, ho, hE⟩
      replace HOt1 := hide (HOt1.out.ext hE)
      replace HOt2 := hide (HOt2.out.ext hE)
      replace HOw0 := hide (HOw0.out.ext hE)
      replace HOx0 := hide (HOx0.out.ext hE)
      have hz5 := hE.size
      replace HE := hide (HE.out.trans hE)
      clear hE
      have HOx1 := hide (InI.mk_ ho); clear ho
      go_wp2_with fail
      refine (iGamesOn_any _ _ _ xs0 _ _ _ xs1 a2 _ HOx0.out.grid HOx1.out.ints).mono ?_; rintro e w6 ⟨Ag0, cg0, rfl, ho0, hE⟩
      replace HOt1 := hide (HOt1.out.ext hE)
      replace HOt2 := hide (HOt2.out.ext hE)
      replace HOw0 := hide (HOw0.out.ext hE)
      replace HOx0 := hide (HOx0.out.ext hE)
      replace HOx1 := hide (HOx1.out.ext hE)
      have hz6 := hE.size
      replace HE := hide (HE.out.trans hE)
      clear hE
      have HOg0 := hide ho0; clear ho0
      go_wp2_with fail
      refine (eqIntSS_any _ _ _ (gamesOn xs0 xs1 a2) _ _ _ (gamesOn xs0 xs1 a2) _ HOg0.out.grid HOw0.out.grid).mono ?_; rintro e w7 ⟨rfl, hE⟩
      replace HOt1 := hide (HOt1.out.ext hE)
      replace HOt2 := hide (HOt2.out.ext hE)
      replace HOw0 := hide (HOw0.out.ext hE)
      replace HOx0 := hide (HOx0.out.ext hE)
      replace HOx1 := hide (HOx1.out.ext hE)
      replace HOg0 := hide (HOg0.out.ext hE)
      have hz7 := hE.size
      replace HE := hide (HE.out.trans hE)
      clear hE
      go_wp2_with fail
      refine (toIntSS_any _ _ _ xs0 _ (HI0.out.ext HE.out) hb0).mono ?_; rintro e w8 ⟨At5, ct5, rfl, ho, hE⟩
      replace HOt1 := hide (HOt1.out.ext hE)
      replace HOt2 := hide (HOt2.out.ext hE)
      replace HOw0 := hide (HOw0.out.ext hE)
      replace HOx0 := hide (HOx0.out.ext hE)
      replace HOx1 := hide (HOx1.out.ext hE)
      replace HOg0 := hide (HOg0.out.ext hE)
      have hz8 := hE.size
      replace HE := hide (HE.out.trans hE)
      clear hE
      have HOt5 := hide ho; clear ho
      go_wp2_with fail
      refine (eqIntSS_any _ _ _ (xs0) _ _ _ (xs0) _ HOx0.out.grid HOt5.out.grid).mono ?_; rintro e w9 ⟨rfl, hE⟩
      replace HOt1 := hide (HOt1.out.ext hE)
      replace HOt2 := hide (HOt2.out.ext hE)
      replace HOw0 := hide (HOw0.out.ext hE)
      replace HOx0 := hide (HOx0.out.ext hE)
      replace HOx1 := hide (HOx1.out.ext hE)
      replace HOg0 := hide (HOg0.out.ext hE)
      replace HOt5 := hide (HOt5.out.ext hE)
      have hz9 := hE.size
      replace HE := hide (HE.out.trans hE)
      clear hE
      go_wp2_with fail
      refine (toIntS_any _ _ _ xs1 _ (HI1.out.ext HE.out) (by omega)).mono ?_; rintro e w10 ⟨At6, ct6, rfl, ho, hE⟩
      replace HOt1 := hide (HOt1.out.ext hE)
      replace HOt2 := hide (HOt2.out.ext hE)
      replace HOw0 := hide (HOw0.out.ext hE)
      replace HOx0 := hide (HOx0.out.ext hE)
      replace HOx1 := hide (HOx1.out.ext hE)
      replace HOg0 := hide (HOg0.out.ext hE)
      replace HOt5 := hide (HOt5.out.ext hE)
      have hz10 := hE.size
      replace HE := hide (HE.out.trans hE)
      clear hE
      have HOt6 := hide (InI.mk_ ho); clear ho
      go_wp2_with fail
      refine (eqIntS_any _ _ _ (xs1) _ _ _ (xs1) _ HOx1.out.ints HOt6.out.ints).mono ?_; rintro e w11 ⟨rfl, hE⟩
      replace HOt1 := hide (HOt1.out.ext hE)
      replace HOt2 := hide (HOt2.out.ext hE)
      replace HOw0 := hide (HOw0.out.ext hE)
      replace HOx0 := hide (HOx0.out.ext hE)
      replace HOx1 := hide (HOx1.out.ext hE)
      replace HOg0 := hide (HOg0.out.ext hE)
      replace HOt5 := hide (HOt5.out.ext hE)
      replace HOt6 := hide (HOt6.out.ext hE)
      have hz11 := hE.size
      replace HE := hide (HE.out.trans hE)
      clear hE
      go_wp2_with fail
      refine (markIntSS_in _ _ _ (xs0) _ _ HOx0.out (by omega) (by omega)).mono ?_; rintro e w12 ⟨rfl, ho, hg⟩
      have hz12 := hg.size
      replace HOt1 := hide (HOt1.out.only hg (by omega))
      replace HOt2 := hide (HOt2.out.only hg (by omega))
      replace HOw0 := hide (HOw0.out.only hg (by omega))
      replace HOx1 := hide (HOx1.out.only hg (by omega))
      replace HOg0 := hide (HOg0.out.only hg (by omega))
      replace HOt5 := hide (HOt5.out.only hg (by omega))
      replace HOt6 := hide (HOt6.out.only hg (by omega))
      replace HE := hide (HE.out.only hg (by omega))
      replace HOx0 := hide ho; clear ho hg
      go_wp2_with fail
      refine (markIntS_in _ _ _ (xs1) _ _ HOx1.out (by omega) (by omega)).mono ?_; rintro e w13 ⟨rfl, ho, hg⟩
      have hz13 := hg.size
      replace HOt1 := hide (HOt1.out.only hg (by omega))
      replace HOt2 := hide (HOt2.out.only hg (by omega))
      replace HOw0 := hide (HOw0.out.only hg (by omega))
      replace HOx0 := hide (HOx0.out.only hg (by omega))
      replace HOg0 := hide (HOg0.out.only hg (by omega))
      replace HOt5 := hide (HOt5.out.only hg (by omega))
      replace HOt6 := hide (HOt6.out.only hg (by omega))
      replace HE := hide (HE.out.only hg (by omega))
      replace HOx1 := hide ho; clear ho hg
      go_wp2_with fail
      refine (eqIntSS_any _ _ _ (gamesOn xs0 xs1 a2) _ _ _ (gamesOn xs0 xs1 a2) _ HOg0.out.grid HOw0.out.grid).mono ?_; rintro e w14 ⟨rfl, hE⟩
      replace HOt1 := hide (HOt1.out.ext hE)
      replace HOt2 := hide (HOt2.out.ext hE)
      replace HOw0 := hide (HOw0.out.ext hE)
      replace HOx0 := hide (HOx0.out.ext hE)
      replace HOx1 := hide (HOx1.out.ext hE)
      replace HOg0 := hide (HOg0.out.ext hE)
      replace HOt5 := hide (HOt5.out.ext hE)
      replace HOt6 := hide (HOt6.out.ext hE)
      have hz14 := hE.size
      replace HE := hide (HE.out.trans hE)
      clear hE
      go_wp2_with fail
      refine (markIntSS_in _ _ _ (gamesOn xs0 xs1 a2) _ _ HOg0.out (by omega) (by omega)).mono ?_; rintro e w15 ⟨rfl, ho, hg⟩
      have hz15 := hg.size
      replace HOt1 := hide (HOt1.out.only hg (by omega))
      replace HOt2 := hide (HOt2.out.only hg (by omega))
      replace HOw0 := hide (HOw0.out.only hg (by omega))
      replace HOx0 := hide (HOx0.out.only hg (by omega))
      replace HOx1 := hide (HOx1.out.only hg (by omega))
      replace HOt5 := hide (HOt5.out.only hg (by omega))
      replace HOt6 := hide (HOt6.out.only hg (by omega))
      replace HE := hide (HE.out.only hg (by omega))
      replace HOg0 := hide ho; clear ho hg
      go_wp2_with fail
      refine (heldIntSS_any _ _ _ _ _ _ HOg0.out.grid (by omega) (by omega)).mono ?_; rintro e w' ⟨rfl, rfl⟩
      go_wp2_with fail
      refine (toIntSS_any _ _ _ xs0 _ (HI0.out.ext HE.out) hb0).mono ?_; rintro e w16 ⟨At7, ct7, rfl, ho, hE⟩
      replace HOt1 := hide (HOt1.out.ext hE)
      replace HOt2 := hide (HOt2.out.ext hE)
      replace HOw0 := hide (HOw0.out.ext hE)
      replace HOx0 := hide (HOx0.out.ext hE)
      replace HOx1 := hide (HOx1.out.ext hE)
      replace HOg0 := hide (HOg0.out.ext hE)
      replace HOt5 := hide (HOt5.out.ext hE)
      replace HOt6 := hide (HOt6.out.ext hE)
      have hz16 := hE.size
      replace HE := hide (HE.out.trans hE)
      clear hE
      have HOt7 := hide ho; clear ho
      go_wp2_with fail
      refine (toIntS_any _ _ _ xs1 _ (HI1.out.ext HE.out) (by omega)).mono ?_; rintro e w17 ⟨At8, ct8, rfl, ho, hE⟩
      replace HOt1 := hide (HOt1.out.ext hE)
      replace HOt2 := hide (HOt2.out.ext hE)
      replace HOw0 := hide (HOw0.out.ext hE)
      replace HOx0 := hide (HOx0.out.ext hE)
      replace HOx1 := hide (HOx1.out.ext hE)
      replace HOg0 := hide (HOg0.out.ext hE)
      replace HOt5 := hide (HOt5.out.ext hE)
      replace HOt6 := hide (HOt6.out.ext hE)
      replace HOt7 := hide (HOt7.out.ext hE)
      have hz17 := hE.size
      replace HE := hide (HE.out.trans hE)
      clear hE
      have HOt8 := hide (InI.mk_ ho); clear ho
      go_wp2_with fail
      refine (iGamesOn_any _ _ _ xs0 _ _ _ xs1 a2 _ HOt7.out.grid HOt8.out.ints).mono ?_; rintro e w18 ⟨Ah0, ch0, rfl, ho0, hE⟩
      replace HOt1 := hide (HOt1.out.ext hE)
      replace HOt2 := hide (HOt2.out.ext hE)
      replace HOw0 := hide (HOw0.out.ext hE)
      replace HOx0 := hide (HOx0.out.ext hE)
      replace HOx1 := hide (HOx1.out.ext hE)
      replace HOg0 := hide (HOg0.out.ext hE)
      replace HOt5 := hide (HOt5.out.ext hE)
      replace HOt6 := hide (HOt6.out.ext hE)
      replace HOt7 := hide (HOt7.out.ext hE)
      replace HOt8 := hide (HOt8.out.ext hE)
      have hz18 := hE.size
      replace HE := hide (HE.out.trans hE)
      clear hE
      have HOh0 := hide ho0; clear ho0
      go_wp2_with fail
      refine (eqIntSS_any _ _ _ (gamesOn xs0 xs1 a2) _ _ _ (gamesOn xs0 xs1 a2) _ HOh0.out.grid HOw0.out.grid).mono ?_; rintro e w19 ⟨rfl, hE⟩
      replace HOt1 := hide (HOt1.out.ext hE)
      replace HOt2 := hide (HOt2.out.ext hE)
      replace HOw0 := hide (HOw0.out.ext hE)
      replace HOx0 := hide (HOx0.out.ext hE)
      replace HOx1 := hide (HOx1.out.ext hE)
      replace HOg0 := hide (HOg0.out.ext hE)
      replace HOt5 := hide (HOt5.out.ext hE)
      replace HOt6 := hide (HOt6.out.ext hE)
      replace HOt7 := hide (HOt7.out.ext hE)
      replace HOt8 := hide (HOt8.out.ext hE)
      replace HOh0 := hide (HOh0.out.ext hE)
      have hz19 := hE.size
      replace HE := hide (HE.out.trans hE)
      clear hE
      go_wp2_with fail
      refine (heldIntSS_any _ _ _ _ _ _ HOg0.out.grid (by omega) (by omega)).mono ?_; rintro e w' ⟨rfl, rfl⟩
      go_wp2
      go_ret
      exact ⟨by first | rfl | simp, HE.out⟩
    · go_enter Try.func9, Try.ntmps9
      have HSZ := hide (szLeft_no (n := bulk xs0) (left := 1048576) (by omega))
      go_wp2_with fail
      refine (szIntSS_any _ _ _ xs0 _ _ HI0.out (by omega) (by omega)).mono ?_; rw [HSZ.out]; rintro e w' ⟨rfl, rfl⟩
      clear HSZ
      go_wp2
      go_ret
      exact ⟨rfl, Ext.refl _⟩
  · go_enter Try.func9, Try.ntmps9
    go_wp2
    go_ret
    exact ⟨rfl, Ext.refl _⟩
-- impl.CourtsNeeded
theorem zeros18 : #[Value.int .i64 0, .int .i64 0, .int .i64 0, .int .i64 0, .int .i64 0, .int .i64 0, .int .i64 0, .int .i64 0, .int .i64 0, .int .i64 0, .int .i64 0, .int .i64 0, .int .i64 0, .int .i64 0, .int .i64 0, .int .i64 0, .int .i64 0, .int .i64 0] = Array.replicate 18 (Value.int .i64 0) := rfl
theorem courts_yes {rows : List (List Int)} {days : List Int} (h : isSchedule rows days) : courts rows days = maxL (counts 18 days) := by rw [courts, if_pos h]
theorem courts_no {rows : List (List Int)} {days : List Int} (h : ¬ isSchedule rows days) : courts rows days = -1 := by rw [courts, if_neg h]
theorem iCourts_any (A : Option Addr) (n c : Nat) (rows : List (List Int)) (A2 : Option Addr) (n2 c2 : Nat) (days : List Int) (w : World) (h : Grid w A n c rows) (h2 : Ints w A2 n2 c2 days) :
    Calls Try.prog 27 #[.slice A n c, .slice A2 n2 c2] w fun e w' => e = .returned (.int .i64 (courts rows days)) ∧ Ext w w' := by
  have HL := hide h.len
  have HL2 := hide h2.len
  have HI := hide h
  have HI2 := hide h2
  have hle := h2.le
  have hmx := h2.max
  by_cases hok : isSchedule rows days
  · have h18 : n2 ≤ 18 := by have := HL2.out; have := hok.1.1; have := hok.2.1; omega
    have HIN := hide hok.2.2.1
    have HF := hide (courts_yes hok)
    go_enter Try.func27, Try.ntmps27
    go_wp2_with (go_at_call 24; refine (iIsSchedule_any _ _ _ rows _ _ _ days _ HI.out HI2.out).mono ?_; rw [decide_eq_true hok]; rintro e w1 ⟨rfl, hE1⟩)
    have h1 := Ow.fill w1 (base := w1.heap.size) (E := 50) (.int .i64 0) 18 (by omega) (Nat.le_refl _)
    rw [← zeros18, show List.replicate 18 (Value.int .i64 0) = (counts 18 (days.take 0)).map (Value.int .i64) by simp [counts_nil]] at h1
    have H1 := hide h1; have HE1 := hide hE1; clear h1 hE1
    go_loopw [14] (fun i wr => ∃ k : Nat, k ≤ n2 ∧ i = .int .i64 k ∧ Ow wr w1.heap.size 50 (some ⟨w1.heap.size, 0, none⟩) 18 18 ((counts 18 (days.take k)).map (Value.int .i64)) ∧ Ext w1 wr) (fun i _ => n2 - (intOf i).toNat)
    case atStart => exact ⟨0, Nat.zero_le _, rfl, H1.out, Ext.one _ _⟩
    case round =>
      obtain ⟨k, hk, rfl, ho, hE2⟩ := hrel
      by_cases hlk : k < n2
      · obtain ⟨b, off, x, rfl, hb, hx, wx, hc⟩ := (h2.ext (HE1.out.trans hE2)).get hlk
        have hin := HIN.out x (List.mem_of_getElem? hx)
        obtain ⟨t, rfl⟩ : ∃ t : Nat, x = (t : Int) := ⟨x.toNat, by omega⟩
        obtain ⟨b3, o3, u, e3, hb3, hl3, hu, hcu, hfu⟩ := ho.get (k := t) (by omega)
        cases e3
        rw [List.getElem?_map, counts_get _ (by omega)] at hu
        cases hu
        have hu1 := cntL_bound (days.take k) t
        have hlen : (days.take k).length ≤ k := List.length_take_le _ _
        have hs1 := ho.store (k := t) rfl (by omega) (.int .i64 (cntL (days.take k) t + 1))
        rw [← List.map_set, counts_snoc _ (by omega), ← take_snoc_of hx] at hs1
        simp only [Nat.zero_add] at hs1 hcu hfu
        have HS := hide hs1; have HE2 := hide hE2
        clear hs1 hE2 ho hx
        generalize cntL (days.take k) t = cu at *
        go_wp2
        go_roundw
        case rel => exact ⟨k + 1, by omega, by go_num, HS.out, HE2.out.setCell (Nat.le_refl _) _⟩
        case measure => (simp [intOf] <;> omega)
      · have hke : k = n2 := by omega
        subst hke
        rw [take_len HL2.out] at ho
        have HO2 := hide ho; have HE2 := hide hE2; clear ho hE2
        have hlr : days.length ≤ 100 := by have := HL2.out; omega
        go_wp2_with (go_at_call 49; refine (Max_any _ _ _ (counts 18 days) _ (HO2.out.to_ints (counts_i64 hlr)) (by omega) (fun x hx => (counts_nonneg 18 _ x hx).1)).mono ?_; rintro e w' ⟨rfl, rfl⟩)
        go_ret
        exact ⟨ret_int HF.out.symm, HE1.out.trans HE2.out⟩
  · have HF := hide (courts_no hok)
    go_enter Try.func27, Try.ntmps27
    go_wp2_with (go_at_call 24; refine (iIsSchedule_any _ _ _ rows _ _ _ days _ HI.out HI2.out).mono ?_; rw [decide_eq_false hok]; rintro e w1 ⟨rfl, hE1⟩)
    go_ret
    exact ⟨ret_int HF.out.symm, hE1⟩
-- spec.CourtsNeeded
theorem gamesOn_count {rows : List (List Int)} {days : List Int} (h : isSchedule rows days) (k : Nat) : ((gamesOn rows days (k : Int)).length : Int) = cntL days k := by
  rw [gamesOn, if_pos h, onTo_count k (by rw [h.2.1]; exact Nat.le_refl _), ← h.2.1, List.take_length]
theorem sCourts_any (A : Option Addr) (n c : Nat) (rows : List (List Int)) (A2 : Option Addr) (n2 c2 : Nat) (days : List Int) (w : World) (h : Grid w A n c rows) (h2 : Ints w A2 n2 c2 days) :
    Calls Try.prog 26 #[.slice A n c, .slice A2 n2 c2] w fun e w' => e = .returned (.int .i64 (courts rows days)) ∧ Ext w w' := by
  have HI := hide h
  have HI2 := hide h2
  clear h h2
  by_cases hok : isSchedule rows days
  · have HF := hide (courts_yes hok)
    have HK := hide hok
    go_enter Try.func26, Try.ntmps26
    go_wp2_with (go_at_call 22; refine (sIsSchedule_any _ _ _ rows _ _ _ days _ HI.out HI2.out).mono ?_; rw [decide_eq_true hok]; rintro e w1 ⟨rfl, hE1⟩)
    have HE1 := hide hE1; clear hE1 hok
    go_loopw [5, 6] (fun m i wr => ∃ k : Nat, k ≤ 18 ∧ i = .int .i64 k ∧ m = .int .i64 (maxL ((counts 18 days).take k)) ∧ Ext w wr) (fun _ i _ => 18 - (intOf i).toNat)
    case atStart => exact ⟨0, by omega, rfl, rfl, HE1.out⟩
    case round =>
      obtain ⟨k, hk, rfl, rfl, hE⟩ := hrel
      have HE := hide hE; clear hE
      by_cases hlt : k < 18
      · have HC := hide (gamesOn_count HK.out k)
        have hg := gamesOn_len rows days k
        have HM := hide (maxL_counts_take 18 days k hlt)
        have hlt' : (k : Int) < 18 := by omega
        go_wp2_with (go_at_call 33; refine (sGamesOn_any _ _ _ rows _ _ _ days k _ (HI.out.ext HE.out) (HI2.out.ext HE.out)).mono ?_; rintro e w2 ⟨A1, c1, rfl, ho, hE2⟩)
        go_roundw
        case rel =>
          refine ⟨k + 1, by omega, by go_num, ?_, HE.out.trans hE2⟩
          rw [HM.out, ← HC.out]
          exact congrArg _ (by split <;> omega)
        case measure => (simp [intOf] <;> omega)
      · have hke : k = 18 := by omega
        subst hke
        go_wp2
        go_ret
        exact ⟨ret_int (by rw [HF.out, List.take_of_length_le (by rw [counts_len]; exact Nat.le_refl _)]), HE.out⟩
  · have HF := hide (courts_no hok)
    go_enter Try.func26, Try.ntmps26
    go_wp2_with (go_at_call 22; refine (sIsSchedule_any _ _ _ rows _ _ _ days _ HI.out HI2.out).mono ?_; rw [decide_eq_false hok]; rintro e w1 ⟨rfl, hE1⟩)
    go_ret
    exact ⟨ret_int HF.out.symm, hE1⟩
-- law CourtsNeeded
theorem law_CourtsNeeded (A0 : Option Addr) (n0 c0 : Nat) (xs0 : List (List Int)) (A1 : Option Addr) (n1 c1 : Nat) (xs1 : List Int) (w : World) (h0 : Grid w A0 n0 c0 xs0) (h1 : Ints w A1 n1 c1 xs1) :
    Calls Try.prog 7 #[.slice A0 n0 c0, .slice A1 n1 c1] w fun e w' => e = .returned (.bool true) ∧ Ext w w' := by
  have hl0 := h0.len; subst hl0
  have HI0 := hide h0; clear h0
  have hl1 := h1.len; subst hl1
  have HI1 := hide h1; clear h1
  by_cases hs1 : xs1.length ≤ 1048576
  · skip
    by_cases hs0 : (bulk xs0 : Int) ≤ 1048576
    · skip
      have hb0 : bulk xs0 ≤ 1048576 := by omega
      have hbt0 : tot xs0 ≤ 1048576 := by have h := hb0; unfold bulk at h; omega
      go_enter Try.func7, Try.ntmps7
      have HSZ := hide (szLeft_yes (n := bulk xs0) (left := 1048576) (by omega))
      go_wp2_with fail
      refine (szIntSS_any _ _ _ xs0 _ _ HI0.out (by omega) (by omega)).mono ?_; rw [HSZ.out]; rintro e w' ⟨rfl, rfl⟩
      clear HSZ
      go_wp2_with fail
      refine (toIntSS_any _ _ _ xs0 _ HI0.out hb0).mono ?_; rintro e w1 ⟨At1, ct1, rfl, ho, hE⟩
      have hz1 := hE.size
      have HE := hide hE
      clear hE
      have HOt1 := hide ho; clear ho
      go_wp2_with fail
      refine (toIntS_any _ _ _ xs1 _ (HI1.out.ext HE.out) (by omega)).mono ?_; rintro e w2 ⟨At2, ct2, rfl, ho, hE⟩
      replace HOt1 := hide (HOt1.out.ext hE)
      have hz2 := hE.size
      replace HE := hide (HE.out.trans hE)
      clear hE
      have HOt2 := hide (InI.mk_ ho); clear ho
      go_wp2_with fail
      refine (sCourts_any _ _ _ xs0 _ _ _ xs1 _ HOt1.out.grid HOt2.out.ints).mono ?_; rintro e w3 ⟨rfl, hE⟩
      replace HOt1 := hide (HOt1.out.ext hE)
      replace HOt2 := hide (HOt2.out.ext hE)
      have hz3 := hE.size
      replace HE := hide (HE.out.trans hE)
      clear hE
      go_wp2_with fail
      refine (toIntSS_any _ _ _ xs0 _ (HI0.out.ext HE.out) hb0).mono ?_; rintro e w4 ⟨Ax0, cx0, rfl, ho, hE⟩
      replace HOt1 := hide (HOt1.out.ext hE)
      replace HOt2 := hide (HOt2.out.ext hE)
      have hz4 := hE.size
      replace HE := hide (HE.out.trans hE)
      clear hE
      have HOx0 := hide ho; clear ho
      go_wp2_with fail
      refine (toIntS_any _ _ _ xs1 _ (HI1.out.ext HE.out) (by omega)).mono ?_; rintro e w5 ⟨Ax1, cx1, rfl, ho, hE⟩
      replace HOt1 := hide (HOt1.out.ext hE)
      replace HOt2 := hide (HOt2.out.ext hE)
      replace HOx0 := hide (HOx0.out.ext hE)
      have hz5 := hE.size
      replace HE := hide (HE.out.trans hE)
      clear hE
      have HOx1 := hide (InI.mk_ ho); clear ho
      go_wp2_with fail
      refine (iCourts_any _ _ _ xs0 _ _ _ xs1 _ HOx0.out.grid HOx1.out.ints).mono ?_; rintro e w6 ⟨rfl, hE⟩
      replace HOt1 := hide (HOt1.out.ext hE)
      replace HOt2 := hide (HOt2.out.ext hE)
      replace HOx0 := hide (HOx0.out.ext hE)
      replace HOx1 := hide (HOx1.out.ext hE)
      have hz6 := hE.size
      replace HE := hide (HE.out.trans hE)
      clear hE
      go_wp2_with fail
      refine (toIntSS_any _ _ _ xs0 _ (HI0.out.ext HE.out) hb0).mono ?_; rintro e w7 ⟨At5, ct5, rfl, ho, hE⟩
      replace HOt1 := hide (HOt1.out.ext hE)
      replace HOt2 := hide (HOt2.out.ext hE)
      replace HOx0 := hide (HOx0.out.ext hE)
      replace HOx1 := hide (HOx1.out.ext hE)
      have hz7 := hE.size
      replace HE := hide (HE.out.trans hE)
      clear hE
      have HOt5 := hide ho; clear ho
      go_wp2_with fail
      refine (eqIntSS_any _ _ _ (xs0) _ _ _ (xs0) _ HOx0.out.grid HOt5.out.grid).mono ?_; rintro e w8 ⟨rfl, hE⟩
      replace HOt1 := hide (HOt1.out.ext hE)
      replace HOt2 := hide (HOt2.out.ext hE)
      replace HOx0 := hide (HOx0.out.ext hE)
      replace HOx1 := hide (HOx1.out.ext hE)
      replace HOt5 := hide (HOt5.out.ext hE)
      have hz8 := hE.size
      replace HE := hide (HE.out.trans hE)
      clear hE
      go_wp2_with fail
      refine (toIntS_any _ _ _ xs1 _ (HI1.out.ext HE.out) (by omega)).mono ?_; rintro e w9 ⟨At6, ct6, rfl, ho, hE⟩
      replace HOt1 := hide (HOt1.out.ext hE)
      replace HOt2 := hide (HOt2.out.ext hE)
      replace HOx0 := hide (HOx0.out.ext hE)
      replace HOx1 := hide (HOx1.out.ext hE)
      replace HOt5 := hide (HOt5.out.ext hE)
      have hz9 := hE.size
      replace HE := hide (HE.out.trans hE)
      clear hE
      have HOt6 := hide (InI.mk_ ho); clear ho
      go_wp2_with fail
      refine (eqIntS_any _ _ _ (xs1) _ _ _ (xs1) _ HOx1.out.ints HOt6.out.ints).mono ?_; rintro e w10 ⟨rfl, hE⟩
      replace HOt1 := hide (HOt1.out.ext hE)
      replace HOt2 := hide (HOt2.out.ext hE)
      replace HOx0 := hide (HOx0.out.ext hE)
      replace HOx1 := hide (HOx1.out.ext hE)
      replace HOt5 := hide (HOt5.out.ext hE)
      replace HOt6 := hide (HOt6.out.ext hE)
      have hz10 := hE.size
      replace HE := hide (HE.out.trans hE)
      clear hE
      go_wp2
      go_ret
      exact ⟨by first | rfl | simp, HE.out⟩
    · go_enter Try.func7, Try.ntmps7
      have HSZ := hide (szLeft_no (n := bulk xs0) (left := 1048576) (by omega))
      go_wp2_with fail
      refine (szIntSS_any _ _ _ xs0 _ _ HI0.out (by omega) (by omega)).mono ?_; rw [HSZ.out]; rintro e w' ⟨rfl, rfl⟩
      clear HSZ
      go_wp2
      go_ret
      exact ⟨rfl, Ext.refl _⟩
  · go_enter Try.func7, Try.ntmps7
    go_wp2
    go_ret
    exact ⟨rfl, Ext.refl _⟩

end Go.Proofs.Ytfmdifhdmanmfaa
