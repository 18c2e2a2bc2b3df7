/-
  The walk of the law on days: games are played in as many days as the busiest team has games. Under way.
-/
import Derived.Laws.ShiftsVar
import Derived.Deep.RegionLaw
import Derived.Deep.QuietTactic
import Derived.Test.YtbaljgdepicigaaBase
import Derived.Test.YtbaljgdepicigaaMathA
import Derived.Test.YtbaljgdepicigaaMathD
import Derived.Test.YtbaljgdepicigaaLib
import Derived.Test.YtbaljgdepicigaaAid
import Derived.Test.YtbaljgdepicigaaStep
import Derived.Test.YtbaljgdepicigaaGrid
import Derived.Test.YtbaljgdepicigaaLibF
import Derived.Test.YtbaljgdepicigaaDays
import Derived.Test.YtbaljgdepicigaaDaysB
import Derived.Test.YtbaljgdepicigaaDaysC
import Derived.Test.YtbaljgdepicigaaMathG
import Derived.Test.YtbaljgdepicigaaMathQ
import Derived.Test.YtbaljgdepicigaaDblA
import Derived.Test.YtbaljgdepicigaaDaysD
import Derived.Test.YtbaljgdepicigaaDaysE
import Derived.Test.YtbaljgdepicigaaDaysF
import Derived.Test.YtbaljgdepicigaaCurA
import Derived.Test.YtbaljgdepicigaaCurB
namespace Go.Proofs.Ytbaljgdepicigaa
open Go.RowKit
set_option linter.unusedVariables false

-- laws.FnDays
theorem drawn_ok {rows : List (List Int)} (h : drawnG rows) : gamesOk rows := ⟨by have := h.1; omega, fun g hg => by
  obtain ⟨u, v, rfl, hu, hv⟩ := h.2 g hg
  exact ⟨rfl, fun x hx => by simp at hx; rcases hx with rfl | rfl <;> omega⟩⟩
theorem sumC_bound {f : Nat → Int} {B : Nat} (h : ∀ t, 0 ≤ f t ∧ f t ≤ (B : Int)) (k : Nat) : 0 ≤ sumC f k ∧ sumC f k ≤ ((k * B : Nat) : Int) := by
  induction k with
  | zero => simp [sumC]
  | succ k ih => have := h k; simp only [sumC, Nat.succ_mul]; omega
theorem maxC_bound {f : Nat → Int} {B : Nat} (h : ∀ t, 0 ≤ f t ∧ f t ≤ (B : Int)) (k : Nat) : 0 ≤ maxC f k ∧ maxC f k ≤ (B : Int) := by
  induction k with
  | zero => simp [maxC]
  | succ k ih => have := h k; simp only [maxC]; omega
theorem on_pair {rows : List (List Int)} {days : List Int} {day : Int} (hok : gamesOk rows) (hl : days.length = rows.length) : ∀ r ∈ onTo rows days day rows.length, ∃ x y : Int, r = [x, y] ∧ ¬ x ∈ idleTo rows days 0 day 6 ∧ ¬ y ∈ idleTo rows days 1 day 6 := by
  intro r hr
  obtain ⟨a, b, e, _, _⟩ := gameOk_two (hok.2 r (onTo_mem (Nat.le_refl _) r hr))
  have h0 := plays_not_idle (s := 0) hl r hr
  have h1 := plays_not_idle (s := 1) hl r hr
  subst e
  exact ⟨_, _, rfl, by simpa using h0, by simpa using h1⟩
theorem lit_games (w : World) : Grid ((((w.alloc (.cells #[.int .i64 0, .int .i64 0] 3)).alloc (.cells #[.int .i64 0, .int .i64 0] 3)).alloc (.cells #[.int .i64 1, .int .i64 0] 3)).alloc
    (.cells #[.slice (some ⟨w.heap.size, 0, none⟩) 2 2, .slice (some ⟨w.heap.size + 1, 0, none⟩) 2 2, .slice (some ⟨w.heap.size + 2, 0, none⟩) 2 2] 23)) (some ⟨w.heap.size + 3, 0, none⟩) 3 3 [[0, 0], [0, 0], [1, 0]] := by
  have e1 := (ints_lit2 w (base := 0) 0 0 ⟨by omega, by omega⟩ ⟨by omega, by omega⟩ (Nat.zero_le _)).ints
  have e2 := (ints_lit2 (w.alloc (.cells #[.int .i64 0, .int .i64 0] 3)) (base := 0) 0 0 ⟨by omega, by omega⟩ ⟨by omega, by omega⟩ (Nat.zero_le _)).ints
  have e3 := (ints_lit2 ((w.alloc (.cells #[.int .i64 0, .int .i64 0] 3)).alloc (.cells #[.int .i64 0, .int .i64 0] 3)) (base := 0) 1 0 ⟨by omega, by omega⟩ ⟨by omega, by omega⟩ (Nat.zero_le _)).ints
  have e4 := heap_alloc_new (((w.alloc (.cells #[.int .i64 0, .int .i64 0] 3)).alloc (.cells #[.int .i64 0, .int .i64 0] 3)).alloc (.cells #[.int .i64 1, .int .i64 0] 3)) (.cells #[.slice (some ⟨w.heap.size, 0, none⟩) 2 2, .slice (some ⟨w.heap.size + 1, 0, none⟩) 2 2, .slice (some ⟨w.heap.size + 2, 0, none⟩) 2 2] 23)
  simp only [World.size_alloc] at e2 e3 e4
  have f1 := ((e1.ext (Ext.one _ (.cells #[.int .i64 0, .int .i64 0] 3))).ext (Ext.one _ (.cells #[.int .i64 1, .int .i64 0] 3))).ext (Ext.one _ (.cells #[.slice (some ⟨w.heap.size, 0, none⟩) 2 2, .slice (some ⟨w.heap.size + 1, 0, none⟩) 2 2, .slice (some ⟨w.heap.size + 2, 0, none⟩) 2 2] 23))
  have f2 := (e2.ext (Ext.one _ (.cells #[.int .i64 1, .int .i64 0] 3))).ext (Ext.one _ (.cells #[.slice (some ⟨w.heap.size, 0, none⟩) 2 2, .slice (some ⟨w.heap.size + 1, 0, none⟩) 2 2, .slice (some ⟨w.heap.size + 2, 0, none⟩) 2 2] 23))
  have f3 := e3.ext (Ext.one _ (.cells #[.slice (some ⟨w.heap.size, 0, none⟩) 2 2, .slice (some ⟨w.heap.size + 1, 0, none⟩) 2 2, .slice (some ⟨w.heap.size + 2, 0, none⟩) 2 2] 23))
  refine ⟨[(some ⟨w.heap.size, 0, none⟩, 2, 2), (some ⟨w.heap.size + 1, 0, none⟩, 2, 2), (some ⟨w.heap.size + 2, 0, none⟩, 2, 2)], ⟨rfl, Nat.le_refl _, by omega, fun _ => ⟨w.heap.size + 3, 0, rfl, by simp, fun k v hk => ?_⟩⟩, rfl, fun i x r hx hr => ?_⟩
  · rw [cell_of_row _ _ (0 + k) _ _ _ e4, Nat.zero_add]
    simpa [sv] using hk
  · match i with
    | 0 => cases hx; cases hr; exact f1
    | 1 => cases hx; cases hr; exact f2
    | 2 => cases hx; cases hr; exact f3
    | i + 3 => simp at hx
set_option maxHeartbeats 4000000 in
set_option maxRecDepth 100000 in
theorem law_Days (A : Option Addr) (n c : Nat) (bs : List Int) (w : World) (h : Bts w A n c bs) :
    Calls Try.prog 5 #[.slice A n c] w fun e w' => e = .returned (.bool true) ∧ Ext w w' := by
  have HB := hide h
  have hle := h.rd.le
  have hmx := h.rd.max
  clear h
  by_cases hn : (1048576 : Int) < (n : Int)
  · go_enter Try.func5, Try.ntmps5
    go_wp2
    go_ret
    exact ⟨rfl, Ext.refl _⟩
  · go_enter Try.func5, Try.ntmps5
    go_wp2_with fail
    refine (makeGames_any A n c bs 0 w HB.out (by omega)).mono ?_
    rintro e w1 ⟨rows, G, g, rfl, hdr, hG, hE1⟩
    have HOK := hide (drawn_ok hdr)
    have HG := hide hG.grid
    have HE1 := hide hE1
    have hm11 : rows.length ≤ 11 := hdr.1
    clear hdr hG hE1
    go_wp2_with fail
    refine (iSched_any _ _ _ rows _ HG.out).mono ?_
    rw [show scheduled rows = sched rows rows.length from if_pos HOK.out]
    rintro e w2 ⟨D, d, rfl, hD, hE2⟩
    have HSB := hide (sched_busy HOK.out)
    have HIS := hide (sched_is HOK.out)
    have HBZ := hide (busiest_bound rows)
    rw [HSB.out.len] at hD ⊢
    have HD := hide hD.ints
    have HE2 := hide (HE1.out.trans hE2)
    have HG2 := hide (HG.out.ext hE2)
    clear hD hE2
    generalize sched rows rows.length = ds at *
    obtain ⟨b, hb⟩ : ∃ b : Nat, busiest rows = (b : Int) := ⟨(busiest rows).toNat, by have := HBZ.out.1; omega⟩
    have HBB := hide hb
    rw [hb] at HSB HBZ
    have hb11 : b ≤ 11 := by have := HBZ.out.2; omega
    generalize hm : rows.length = m at *
    have HM := hide hm
    clear hb hm
    have HBT := hide (show busiestTeam rows = (b : Int) from (if_pos HOK.out).trans HBB.out)
    go_wp2_with (go_at_call 32; refine (iBusiestTeam_any _ _ _ rows _ HG2.out).mono ?_; rw [HBT.out]; rintro e w3 ⟨rfl, hE3⟩)
    have hbz : (0 : Int) ≤ (b : Int) := by omega
    go_wp2_with (first
      | (go_at_call 33; refine (iGamesOk_any _ _ _ rows _ (HG2.out.ext hE3)).mono ?_; rw [decide_eq_true HOK.out]; rintro e w4 ⟨rfl, hE4⟩)
      | (go_at_call 34; refine (iIsSchedule_any _ _ _ rows _ _ _ ds _ (HG2.out.ext (hE3.trans hE4)) (HD.out.ext (hE3.trans hE4))).mono ?_; rw [decide_eq_true HIS.out]; rintro e w5 ⟨rfl, hE5⟩)
      | (go_at_call 35; refine (iFewestDays_any _ _ _ rows _ (HG2.out.ext ((hE3.trans hE4).trans hE5))).mono ?_; rw [HBT.out]; rintro e w6 ⟨rfl, hE6⟩))
    have HE6 := hide (((hE3.trans hE4).trans hE5).trans hE6)
    clear hE3 hE4 hE5 hE6
    go_loopw [6, 7, 8] (fun t6 t7 t8 wr => ∃ d : Nat, d ≤ b ∧ t6 = .int .i64 (sumC (cntL ds) d) ∧ t7 = .int .i64 (maxC (cntL ds) d) ∧ t8 = .int .i64 (d : Int) ∧ Ext w2 wr) (fun _ _ i _ => b - (intOf i).toNat)
    case atStart => exact ⟨0, Nat.zero_le _, rfl, rfl, rfl, HE6.out⟩
    case round =>
      obtain ⟨d, hd, rfl, rfl, rfl, hE⟩ := hrel
      have HER := hide hE
      clear hE
      by_cases hlt : d < b
      · have HGO := hide (gamesOn_yes (d : Int) HIS.out HM.out)
        have HIO := hide (show idle rows ds (d : Int) = [idleTo rows ds 0 (d : Int) 6, idleTo rows ds 1 (d : Int) 6] from if_pos HIS.out)
        have HCN := hide (show ((onTo rows ds (d : Int) m).length : Int) = cntL ds d by rw [onTo_count d (by rw [HSB.out.len]; exact Nat.le_refl _), ← HSB.out.len, List.take_length])
        have HX := hide (on_pair (day := (d : Int)) HOK.out (HIS.out.2.1))
        rw [HM.out] at HX
        have hS := sumC_bound (f := cntL ds) (B := 11) (fun t => by have := cntL_bound ds t; have := HSB.out.len; omega) d
        have hM := maxC_bound (f := cntL ds) (B := 11) (fun t => by have := cntL_bound ds t; have := HSB.out.len; omega) d
        have HS1 := hide (show sumC (cntL ds) (d + 1) = sumC (cntL ds) d + cntL ds d from rfl)
        have HM1 := hide (show maxC (cntL ds) (d + 1) = max (maxC (cntL ds) d) (cntL ds d) from rfl)
        have hc := cntL_bound ds d
        have hcm : cntL ds d ≤ 11 := by have := HSB.out.len; omega
        clear hc
        obtain ⟨L, hL⟩ : ∃ L, L = onTo rows ds (d : Int) m := ⟨_, rfl⟩
        rw [← hL] at HGO HCN HX
        obtain ⟨q, hq⟩ : ∃ q, L.length = q := ⟨_, rfl⟩
        have HQ := hide hq
        rw [hq] at HCN
        rw [← HCN.out] at HS1 HM1 hcm
        clear hL hq
        generalize sumC (cntL ds) d = S at *
        generalize maxC (cntL ds) d = M at *
        have hS2 : S ≤ 121 := by omega
        have hdi : (d : Int) < (b : Int) := by omega
        go_wp2_with (first
          | (go_at_call 36; refine (iGamesOn_any _ _ _ rows _ _ _ ds (d : Int) _ (HG2.out.ext HER.out) (HD.out.ext HER.out)).mono ?_; rw [HGO.out]; rintro e w4 ⟨A4, c4, rfl, hO4, hE4⟩; rw [HQ.out] at hO4 ⊢)
          | (go_at_call 37; refine (iIdle_any _ _ _ rows _ _ _ ds (d : Int) _ (HG2.out.ext (HER.out.trans hE4)) (HD.out.ext (HER.out.trans hE4))).mono ?_; rw [HIO.out]; rintro e w5 ⟨A5, c5, rfl, hO5, hE5⟩))
        all_goals (
          have HE5 := hide (HER.out.trans (hE4.trans hE5))
          have HG4 := hide (hO4.grid.ext hE5)
          have HI5 := hide hO5.grid
          clear hO4 hO5 hE4 hE5
          obtain ⟨bi, oi, Bi, di, ri, rfl, hbi, hri, hci, hii⟩ := HI5.out.get (k := 0) (show 0 < 2 by omega)
          obtain ⟨bi', oi', Bj, dj, rj, e, hbj, hrj, hcj, hij⟩ := HI5.out.get (k := 1) (show 1 < 2 by omega)
          cases e
          cases hri
          cases hrj
          have HIA := hide hii
          have HIB := hide hij
          clear hii hij hbj
          generalize idleTo rows ds 0 (d : Int) 6 = I0 at *
          generalize idleTo rows ds 1 (d : Int) 6 = I1 at *
          go_wp2
          go_loopw [85] (fun i wr => ∃ k : Nat, k ≤ q ∧ i = .int .i64 (k : Int) ∧ Ext w5 wr) (fun i _ => q - (intOf i).toNat)
          case atStart => exact ⟨0, Nat.zero_le _, rfl, Ext.refl _⟩
          case round =>
            obtain ⟨k, hk, rfl, hE⟩ := hrel
            have HE7 := hide hE
            clear hE
            by_cases hkl : k < q
            · obtain ⟨bl', ol', BL, dl, rl, rfl, hbl, hrl, hcl, hil⟩ := (HG4.out.ext HE7.out).get hkl
              obtain ⟨x, y, rfl, hx, hy⟩ := HX.out rl (List.mem_of_getElem? hrl)
              obtain ⟨bx, ox, x', rfl, hbx, hxx, wx, hcx⟩ := hil.get (k := 0) (show 0 < 2 by omega)
              obtain ⟨bx', ox', y', e, _, hyy, wy, hcy⟩ := hil.get (k := 1) (show 1 < 2 by omega)
              cases e
              cases hxx
              cases hyy
              have h0 := HE7.out.get hci
              have h1 := HE7.out.get hcj
              have HX0 := hide hx
              have HX1 := hide hy
              have hki : (k : Int) < (q : Int) := by omega
              clear hil hrl hbl hbx hx hy
              rw [show [x, y].length = 2 from rfl] at hcl
              go_wp2
              simp only [Nat.add_zero] at h0 hcx
              have d0 := after_cell h0
              have d1 := after_cell h1
              have d2 := after_cell hcx
              have d3 := after_cell hcy
              have CX := hide (show ∀ (e : After wr) (B : Option Addr) (n9 d9 : Nat) (v : Int), (B = Bi ∧ n9 = I0.length ∧ d9 = di ∧ v = x) ∨ (B = Bj ∧ n9 = I1.length ∧ d9 = dj ∧ v = y) → Calls Try.prog 38 #[.slice B n9 d9, .int .i64 v] e.val fun r w'' => r = .returned (.bool false) ∧ e.val = w'' from fun e B n9 d9 v hh => by
                rcases hh with ⟨rfl, rfl, rfl, rfl⟩ | ⟨rfl, rfl, rfl, rfl⟩
                · have h9 := lhas_any B I0.length d9 I0 v e.val ((HIA.out.ext HE7.out).ext e.property)
                  rw [decide_eq_false HX0.out] at h9
                  exact h9
                · have h9 := lhas_any B I1.length d9 I1 v e.val ((HIB.out.ext HE7.out).ext e.property)
                  rw [decide_eq_false HX1.out] at h9
                  exact h9)
              refine wp_region_ext (by kernel_rfl) (by kernel_rfl) ?_
              repeat (go_big_quiet_step ((go_at_call 38; exact after_pure (CX.out _ _ _ _ _ (by first | exact .inl ⟨rfl, rfl, rfl, rfl⟩ | exact .inr ⟨rfl, rfl, rfl, rfl⟩)))))
              refine wpQuiet_nil ?_
              rintro w8 ⟨⟨w8, hE8⟩, rfl⟩
              have HE8 := hide (HE7.out.trans hE8)
              clear d0 d1 d2 d3 h0 h1 hcx hcy hE8
              go_wp2
              go_roundw
              case rel => exact ⟨k + 1, by omega, by go_num, HE8.out⟩
              case measure => (simp [intOf] <;> omega)
            · have hke : k = q := by omega
              subst hke
              go_wp2
              go_roundw
              case rel => exact ⟨d + 1, by omega, by rw [HS1.out], by rw [HM1.out]; congr 1; omega, by go_num, HE5.out.trans HE7.out⟩
              case measure => (simp [intOf] <;> omega))
      · have hde : d = b := by omega
        subst hde
        have HTO := hide (sumC_all ds HSB.out.low)
        have HMO := hide (maxC_all HSB.out.low (by omega))
        rw [HSB.out.len] at HTO
        rw [HTO.out]
        generalize maxC (cntL ds) d = M at *
        clear HTO
        have HMB := hide (maxC_bound (f := cntL ds) (B := m) (fun t => by have := cntL_bound ds t; have := HSB.out.len; omega) d)
        have hb18 : (d : Int) < 18 := by omega
        obtain ⟨w7, hw7⟩ : ∃ w7 : World, w7 = wr := ⟨_, rfl⟩
        rw [← hw7] at HER ⊢
        clear hw7 wr
        go_wp2
        go_loopw [113] (fun i wr => ∃ k : Nat, k ≤ m ∧ i = .int .i64 (k : Int) ∧ Ext w2 wr) (fun i _ => m - (intOf i).toNat)
        case atStart => exact ⟨0, Nat.zero_le _, rfl, HER.out⟩
        case round =>
          obtain ⟨k, hk, rfl, hE⟩ := hrel
          have HE8 := hide hE
          clear hE
          by_cases hlt : k < m
          · obtain ⟨bd, od, day, rfl, hbd, hday, wday, hcd⟩ := (HD.out.ext HE8.out).get hlt
            have hlow := HSB.out.low day (List.mem_of_getElem? hday)
            have HLD := hide HSB.out.len
            have HMV := hide (move_self HIS.out (by rw [HM.out]; exact hlt) (show ds.getD k 0 = day by rw [List.getD, hday]; rfl))
            have HMP := hide (move_past (b := (d : Int)) HIS.out (by rw [HM.out]; exact hlt) (fun x hx => (HSB.out.low x hx).2) (by omega) (by omega))
            have HSY := hide (show isSchedule rows (ds.set k (d : Int)) by have := HMP.out.1.2.2; rwa [Int.toNat_natCast] at this)
            have hki : (k : Int) < (m : Int) := by omega
            clear hday hbd
            go_wp2_with fail
            refine (iMoveGame_any _ _ _ rows _ _ _ ds (k : Int) day _ (HG2.out.ext HE8.out) (HD.out.ext HE8.out) wday).mono ?_
            rw [HMV.out.2, decide_eq_true HMV.out.1]
            rintro e w8 ⟨X, cx, rfl, hX, hE9⟩
            rw [HLD.out] at hX ⊢
            have HX := hide hX.ints
            have HE9 := hide (HE8.out.trans hE9)
            clear hX hE9
            go_wp2_with fail
            refine (iMoveGame_any _ _ _ rows _ _ _ ds (k : Int) (d : Int) _ (HG2.out.ext HE9.out) (HD.out.ext HE9.out) ⟨by omega, by omega⟩).mono ?_
            rw [HMP.out.2, decide_eq_true HMP.out.1]
            rintro e w9 ⟨Y, cy, rfl, hY, hE10⟩
            rw [List.length_set, HLD.out] at hY ⊢
            have HX2 := hide (HX.out.ext hE10)
            have HY := hide hY.ints
            have HE10 := hide (HE9.out.trans hE10)
            clear hY hE10
            obtain ⟨by_, oy, vy, rfl, hby, hvy, wvy, hcy⟩ := HY.out.get hlt
            obtain rfl : vy = (d : Int) := by rw [List.getElem?_set_self (by rw [HLD.out]; exact hlt)] at hvy; simpa using hvy.symm
            clear hvy hby
            go_wp2_with (first
              | (go_at_call 26; refine (lsame_any _ _ _ ds _ _ _ ds _ HX2.out (HD.out.ext HE10.out)).mono ?_; rw [decide_eq_true rfl]; rintro e w' ⟨rfl, rfl⟩)
              | (go_at_call 34; refine (iIsSchedule_any _ _ _ rows _ _ _ (ds.set k (d : Int)) _ (HG2.out.ext HE10.out) HY.out).mono ?_; rw [decide_eq_true HSY.out]; rintro e w10 ⟨rfl, hE11⟩))
            go_roundw
            case rel => exact ⟨k + 1, by omega, by go_num, HE10.out.trans hE11⟩
            case measure => (simp [intOf] <;> omega)
          · have hke : k = m := by omega
            subst hke
            obtain ⟨w8, hw8⟩ : ∃ w8 : World, w8 = wr := ⟨_, rfl⟩
            rw [← hw8] at HE8 ⊢
            clear hw8 wr
            have HO0 := hide (OwI.lit w8 [0, 0, 0, 0, 0, 0] (by intro x hx; simp at hx; rw [hx]; exact ⟨by omega, by omega⟩) (by simp) (Nat.le_refl _))
            go_wp2
            go_loopw [182] (fun i wr => ∃ j : Nat, j ≤ k ∧ i = .int .i64 (j : Int) ∧ OwI wr w8.heap.size (some ⟨w8.heap.size, 0, none⟩) 6 6 (counts 6 (side 0 (rows.take j))) ∧ Ext w8 wr) (fun i _ => k - (intOf i).toNat)
            case atStart => exact ⟨0, Nat.zero_le _, rfl, HO0.out, Ext.one _ _⟩
            case round =>
              obtain ⟨j, hj, rfl, hO, hE⟩ := hrel
              have HE9 := hide hE
              have HO := hide hO
              clear hE hO
              by_cases hlt : j < k
              · obtain ⟨bl, ol, BL, dl, rl, rfl, hbl, hrl, hcl, hil⟩ := ((HG2.out.ext HE8.out).ext HE9.out).get hlt
                obtain ⟨x, y, rfl, hx5, hy5⟩ := gameOk_two (HOK.out.2 rl (List.mem_of_getElem? hrl))
                obtain ⟨bx, ox, x', rfl, hbx, hxx, wx, hcx⟩ := hil.get (k := 0) (show 0 < 2 by omega)
                cases hxx
                obtain ⟨bo, oo, v, e, hbo, hbo2, hv, wv, hcv, hfv⟩ := HO.out.get (k := x) (show x < 6 by omega)
                cases e
                rw [counts_get _ (show x < 6 by omega)] at hv
                cases hv
                have hcb := cntL_bound (side 0 (rows.take j)) x
                have hjl : (side 0 (rows.take j)).length ≤ 11 := by rw [side_len, List.length_take]; omega
                have HST := hide (HO.out.store (x := cntL (side 0 (rows.take j)) x + 1) rfl (show x < 6 by omega) ⟨by omega, by omega⟩)
                have HSN := hide (show (counts 6 (side 0 (rows.take j))).set x (cntL (side 0 (rows.take j)) x + 1) = counts 6 (side 0 (rows.take (j + 1))) by rw [counts_snoc _ (by omega), side_snoc 0 hrl]; rfl)
                have HES := hide (HE9.out.setCell (p := ⟨w8.heap.size, 0 + x, none⟩) (Nat.le_refl _) (.int .i64 (cntL (side 0 (rows.take j)) x + 1)))
                have hji : (j : Int) < (k : Int) := by omega
                rw [HSN.out] at HST
                have hc11 : cntL (side 0 (rows.take j)) x ≤ 11 := by omega
                have hc0 : 0 ≤ cntL (side 0 (rows.take j)) x := by omega
                generalize cntL (side 0 (rows.take j)) x = C at *
                rw [show [(x : Int), (y : Int)].length = 2 from rfl] at hcl
                simp only [Nat.zero_add, Nat.add_zero] at hcv hfv HST HES hcx
                have hxn : x < 6 := by omega
                have hxi : (x : Int) < 6 := by omega
                clear hil hrl hbl hbx hbo hbo2 wv HSN hcb hjl
                go_wp2
                go_region
                all_goals go_wp2
                all_goals go_roundw
                case rel => exact ⟨j + 1, by omega, by go_num, HST.out.ext ((Ext.refl _).drew), HES.out.drew⟩
                case measure => (simp [intOf] <;> omega)
              · have hje : j = k := by omega
                subst hje
                have HBG := hide (show ∀ t, t < 6 → cntL (side 0 rows) t ≤ (d : Int) from fun t ht => by rw [← HBB.out]; exact busy_ge (s := 0) (by omega) ht)
                have HO2 := hide (show OwI wr w8.heap.size (some ⟨w8.heap.size, 0, none⟩) 6 6 (counts 6 (side 0 rows)) by have := HO.out; rwa [take_len HM.out] at this)
                have HCN := hide (show courts rows ds = M by rw [courts_yes HIS.out, ← HMO.out])
                have HEE := hide (HE8.out.trans HE9.out)
                go_wp2
                go_loop [201] (fun i => ∃ t : Nat, t ≤ 6 ∧ i = .int .i64 (t : Int)) (fun i => 6 - (intOf i).toNat)
                case atStart => exact ⟨0, Nat.zero_le _, rfl⟩
                case round =>
                  obtain ⟨t, ht, rfl⟩ := hrel
                  by_cases htl : t < 6
                  · obtain ⟨bo, oo, v, e, hbo, hbo2, hv, wv, hcv, hfv⟩ := HO2.out.get (k := t) htl
                    cases e
                    rw [counts_get _ htl] at hv
                    cases hv
                    have hle6 := HBG.out t htl
                    generalize cntL (side 0 rows) t = C at *
                    simp only [Nat.zero_add] at hcv hfv
                    have hti : (t : Int) < 6 := by omega
                    clear hbo hbo2 wv
                    go_wp2
                    go_round
                    case rel => exact ⟨t + 1, by omega, by go_num⟩
                    case measure => (simp [intOf] <;> omega)
                  · have hte : t = 6 := by omega
                    subst hte
                    go_wp2_with (first
                      | (go_at_call 40; refine (iCourts_any _ _ _ rows _ _ _ ds _ (HG2.out.ext HEE.out) (HD.out.ext HEE.out)).mono ?_; rw [HCN.out]; rintro e wc ⟨rfl, hEc⟩)
                      | (go_at_call 32; refine (iBusiestTeam_any _ _ _ [[0, 0], [0, 0], [1, 0]] _ (lit_games wc)).mono ?_; rw [show busiestTeam [[0, 0], [0, 0], [1, 0]] = 3 from by decide]; rintro e w11 ⟨rfl, hE11⟩))
                    go_ret
                    exact ⟨rfl, HE2.out.trans (HEE.out.trans (hEc.trans (((((Ext.one wc _).alloc _).alloc _).alloc _).trans hE11)))⟩

end Go.Proofs.Ytbaljgdepicigaa
