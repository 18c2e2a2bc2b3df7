/-
  Contracts of the functions on days of games: games of a day, courts, moves.
-/
import Derived.Deep.RegionLaw
import Derived.Test.YtbaljgdepicigaaBase
import Derived.Test.YtbaljgdepicigaaMathA
import Derived.Test.YtbaljgdepicigaaMathD
import Derived.Test.YtbaljgdepicigaaLib
import Derived.Test.YtbaljgdepicigaaAid
import Derived.Test.YtbaljgdepicigaaGrid
import Derived.Test.YtbaljgdepicigaaLibF
import Derived.Test.YtbaljgdepicigaaDays
namespace Go.Proofs.Ytbaljgdepicigaa
open Go.RowKit
set_option linter.unusedVariables false

-- impl.GamesOn
theorem gamesOn_yes {rows : List (List Int)} {days : List Int} (day : Int) {n : Nat} (h : isSchedule rows days) (hl : rows.length = n) : gamesOn rows days day = onTo rows days day n := by rw [gamesOn, if_pos h, hl]
theorem gamesOn_no {rows : List (List Int)} {days : List Int} (day : Int) (h : ¬ isSchedule rows days) : gamesOn rows days day = [] := by rw [gamesOn, if_neg h]
theorem iGamesOn_any (A : Option Addr) (n c : Nat) (rows : List (List Int)) (A2 : Option Addr) (n2 c2 : Nat) (days : List Int) (day : Int) (w : World) (h : Grid w A n c rows) (h2 : Ints w A2 n2 c2 days) :
    Calls Try.prog 36 #[.slice A n c, .slice A2 n2 c2, .int .i64 day] w (RetG w (gamesOn rows days day)) := by
  have HL := hide h.len
  have HL2 := hide h2.len
  have HI := hide h
  have HI2 := hide h2
  have hle := h.le
  have hmx := h.max
  by_cases hok : isSchedule rows days
  · have h18 : n ≤ 18 := by have := HL.out; have := hok.1.1; omega
    have hnn : n2 = n := by have := hok.2.1; have := HL.out; have := HL2.out; omega
    subst hnn
    have HF := hide (gamesOn_yes (rows := rows) (days := days) day hok HL.out)
    go_enter Try.func36, Try.ntmps36
    go_wp2_with (go_at_call 34; refine (iIsSchedule_any _ _ _ rows _ _ _ days _ HI.out HI2.out).mono ?_; rw [decide_eq_true hok]; rintro e w1 ⟨rfl, hE1⟩)
    have HE0 := hide hE1; clear hE1
    go_loopw [7, 16] (fun o i wr => ∃ (k : Nat) (Ao : Option Addr) (co : Nat), k ≤ n2 ∧ i = .int .i64 k ∧ o = .slice Ao (onTo rows days day k).length co ∧ OwG wr w.heap.size wr.heap.size Ao (onTo rows days day k).length co (onTo rows days day k) ∧ Ext w wr) (fun _ i _ => n2 - (intOf i).toNat)
    case atStart => exact ⟨0, none, 0, Nat.zero_le _, rfl, rfl, OwG.nil _ _ _, HE0.out⟩
    case round =>
      obtain ⟨k, Ao, co, hk, rfl, rfl, ho, hE⟩ := hrel
      by_cases hlt : k < n2
      · obtain ⟨b, off, B, d, r, rfl, hb, hx, hc, hir⟩ := (h.ext hE).get hlt
        obtain ⟨b2, o2, di, rfl, hb2, hdi, wdi, hcd⟩ := (h2.ext hE).get hlt
        have hrl : r.length ≤ 1073741824 := by have := (hok.1.2 r (List.mem_of_getElem? hx)).1; omega
        have HX := hide hx; have HD := hide hdi; have HE := hide hE; have HIR := hide hir; have HO := hide ho
        have HLN := hide (onTo_len rows days day k)
        clear hx hir hdi hE ho
        by_cases hdd : di = day
        · have hdb : (di == day) = true := by simpa using hdd
          have HY := hide (onTo_yes (hdd ▸ HD.out) HX.out); clear hdd
          generalize onTo rows days day k = L at *
          go_wp2_with (first
            | (go_at_call 83; refine (Clone_any _ _ _ r _ HIR.out hrl).mono ?_; rintro e w1 ⟨B1, d1, rfl, hoB, hEB⟩)
            | (at_builtin; refine push_row (w0 := wr) rfl (.tmp 27) (.tmp 30) rfl rfl HO.out (hEB.alloc _) (hoB.ext (Ext.one _ _)) w1.heap.size rfl (by simp) (by have := HLN.out; omega) HE.out.size ?_; intro A1 c1 w3 hg3 hz3))
          go_roundw
          case rel =>
            refine ⟨k + 1, A1, c1, by omega, by go_num, ?_, ?_, hz3 w ((HE.out.trans hEB).alloc _) (Nat.le_refl _)⟩
            · rw [HY.out]; simp
            · rw [HY.out]; simpa using hg3
          case measure => (simp [intOf] <;> omega)
        · have hdb : (di == day) = false := by simpa using hdd
          have HY := hide (onTo_no (rows := rows) HD.out hdd); clear hdd
          go_wp2
          go_roundw
          case rel => exact ⟨k + 1, Ao, co, by omega, by go_num, by rw [HY.out], by rw [HY.out]; exact HO.out, HE.out⟩
          case measure => (simp [intOf] <;> omega)
      · have hke : k = n2 := by omega
        subst hke
        have HO := hide ho; have HE := hide hE; clear hE ho
        go_wp2
        go_ret
        rw [HF.out]
        exact RetG.mk rfl HO.out HE.out
  · have HF := hide (gamesOn_no (rows := rows) (days := days) day hok)
    go_enter Try.func36, Try.ntmps36
    go_wp2_with (go_at_call 34; refine (iIsSchedule_any _ _ _ rows _ _ _ days _ HI.out HI2.out).mono ?_; rw [decide_eq_false hok]; rintro e w1 ⟨rfl, hE1⟩)
    go_ret
    rw [HF.out]
    exact RetG.mk rfl (OwG.nil _ _ _) hE1
theorem gamesOn_tot (rows : List (List Int)) (days : List Int) (day : Int) : tot (gamesOn rows days day) ≤ 36 := by
  have h1 := (gamesOn_len rows days day).1
  by_cases hok : isSchedule rows days
  · have h2 := tot_le (rows := gamesOn rows days day) (m := 2) (by
      intro r hr
      rw [gamesOn, if_pos hok] at hr
      have := (hok.1.2 r (onTo_mem (Nat.le_refl _) r hr)).1
      omega)
    omega
  · rw [gamesOn, if_neg hok]; simp [tot]
-- impl.CourtsNeeded
theorem zeros18 : #[Value.int .i64 0, .int .i64 0, .int .i64 0, .int .i64 0, .int .i64 0, .int .i64 0, .int .i64 0, .int .i64 0, .int .i64 0, .int .i64 0, .int .i64 0, .int .i64 0, .int .i64 0, .int .i64 0, .int .i64 0, .int .i64 0, .int .i64 0, .int .i64 0] = Array.replicate 18 (Value.int .i64 0) := rfl
theorem courts_yes {rows : List (List Int)} {days : List Int} (h : isSchedule rows days) : courts rows days = maxL (counts 18 days) := by rw [courts, if_pos h]
theorem courts_no {rows : List (List Int)} {days : List Int} (h : ¬ isSchedule rows days) : courts rows days = -1 := by rw [courts, if_neg h]
theorem iCourts_any (A : Option Addr) (n c : Nat) (rows : List (List Int)) (A2 : Option Addr) (n2 c2 : Nat) (days : List Int) (w : World) (h : Grid w A n c rows) (h2 : Ints w A2 n2 c2 days) :
    Calls Try.prog 40 #[.slice A n c, .slice A2 n2 c2] w fun e w' => e = .returned (.int .i64 (courts rows days)) ∧ Ext w w' := by
  have HL := hide h.len
  have HL2 := hide h2.len
  have HI := hide h
  have HI2 := hide h2
  have hle := h2.le
  have hmx := h2.max
  by_cases hok : isSchedule rows days
  · have h18 : n2 ≤ 18 := by have := HL2.out; have := hok.1.1; have := hok.2.1; omega
    have HIN := hide hok.2.2.1
    have HF := hide (courts_yes hok)
    go_enter Try.func40, Try.ntmps40
    go_wp2_with (go_at_call 34; refine (iIsSchedule_any _ _ _ rows _ _ _ days _ HI.out HI2.out).mono ?_; rw [decide_eq_true hok]; rintro e w1 ⟨rfl, hE1⟩)
    have h1 := Ow.fill w1 (base := w1.heap.size) (E := 99) (.int .i64 0) 18 (by omega) (Nat.le_refl _)
    rw [← zeros18, show List.replicate 18 (Value.int .i64 0) = (counts 18 (days.take 0)).map (Value.int .i64) by simp [counts_nil]] at h1
    have H1 := hide h1; have HE1 := hide hE1; clear h1 hE1
    go_loopw [14] (fun i wr => ∃ k : Nat, k ≤ n2 ∧ i = .int .i64 k ∧ Ow wr w1.heap.size 99 (some ⟨w1.heap.size, 0, none⟩) 18 18 ((counts 18 (days.take k)).map (Value.int .i64)) ∧ Ext w1 wr) (fun i _ => n2 - (intOf i).toNat)
    case atStart => exact ⟨0, Nat.zero_le _, rfl, H1.out, Ext.one _ _⟩
    case round =>
      obtain ⟨k, hk, rfl, ho, hE2⟩ := hrel
      by_cases hlk : k < n2
      · obtain ⟨b, off, x, rfl, hb, hx, wx, hc⟩ := (h2.ext (HE1.out.trans hE2)).get hlk
        have hin := HIN.out x (List.mem_of_getElem? hx)
        obtain ⟨t, rfl⟩ : ∃ t : Nat, x = (t : Int) := ⟨x.toNat, by omega⟩
        obtain ⟨b3, o3, u, e3, hb3, hl3, hu, hcu, hfu⟩ := ho.get (k := t) (by omega)
        cases e3
        rw [List.getElem?_map, counts_get _ (by omega)] at hu
        cases hu
        have hu1 := cntL_bound (days.take k) t
        have hlen : (days.take k).length ≤ k := List.length_take_le _ _
        have hs1 := ho.store (k := t) rfl (by omega) (.int .i64 (cntL (days.take k) t + 1))
        rw [← List.map_set, counts_snoc _ (by omega), ← take_snoc_of hx] at hs1
        simp only [Nat.zero_add] at hs1 hcu hfu
        have HS := hide hs1; have HE2 := hide hE2
        clear hs1 hE2 ho hx
        generalize cntL (days.take k) t = cu at *
        go_wp2
        go_roundw
        case rel => exact ⟨k + 1, by omega, by go_num, HS.out, HE2.out.setCell (Nat.le_refl _) _⟩
        case measure => (simp [intOf] <;> omega)
      · have hke : k = n2 := by omega
        subst hke
        rw [take_len HL2.out] at ho
        have HO2 := hide ho; have HE2 := hide hE2; clear ho hE2
        have hlr : days.length ≤ 100 := by have := HL2.out; omega
        go_wp2_with (go_at_call 103; refine (Max_any _ _ _ (counts 18 days) _ (HO2.out.to_ints (counts_i64 hlr)) (by omega) (fun x hx => (counts_nonneg 18 _ x hx).1)).mono ?_; rintro e w' ⟨rfl, rfl⟩)
        go_ret
        exact ⟨ret_int HF.out.symm, HE1.out.trans HE2.out⟩
  · have HF := hide (courts_no hok)
    go_enter Try.func40, Try.ntmps40
    go_wp2_with (go_at_call 34; refine (iIsSchedule_any _ _ _ rows _ _ _ days _ HI.out HI2.out).mono ?_; rw [decide_eq_false hok]; rintro e w1 ⟨rfl, hE1⟩)
    go_ret
    exact ⟨ret_int HF.out.symm, hE1⟩

end Go.Proofs.Ytbaljgdepicigaa
