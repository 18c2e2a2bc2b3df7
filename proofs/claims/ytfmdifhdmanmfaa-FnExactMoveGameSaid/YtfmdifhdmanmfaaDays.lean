/-
  Contracts of the functions on days of games.
-/
import Derived.Test.YtfmdifhdmanmfaaBase
import Derived.Test.YtfmdifhdmanmfaaMathA
import Derived.Test.YtfmdifhdmanmfaaMathD
import Derived.Test.YtfmdifhdmanmfaaLib
import Derived.Test.YtfmdifhdmanmfaaAid
import Derived.Test.YtfmdifhdmanmfaaGrid
import Derived.Test.YtfmdifhdmanmfaaLibF
namespace Go.Proofs.Ytfmdifhdmanmfaa
open Go.RowKit
set_option linter.unusedVariables false

-- impl.GamesOk
theorem gamesOk_pred (rows : List (List Int)) (w : World) : PredG 46 #[] (fun g => !decide (gameOk g)) rows w := by
  intro W B d r _ hi hE
  have HI := hide hi; clear hi hE
  by_cases h2 : r.length = 2
  · have h2' : ((r.length : Int) != 2) = false := by simp [h2]
    have HF := hide (show (!decide (gameOk r)) = !decide (∀ x ∈ r, 0 ≤ x ∧ x ≤ 5) by simp only [gameOk, h2, true_and])
    clear h2
    go_enter Try.func46, Try.ntmps46
    go_wp2_with (go_at_call 47; refine (allWithin_any _ _ _ r _ _ _ HI.out).mono ?_; rintro e w1 ⟨rfl, hE1⟩)
    go_ret
    exact ⟨ret_bool HF.out.symm, hE1⟩
  · have h2' : ((r.length : Int) != 2) = true := by rw [bne_iff_ne]; omega
    have HF := hide (show (!decide (gameOk r)) = true by simp [gameOk, h2])
    clear h2
    go_enter Try.func46, Try.ntmps46
    go_wp2
    go_ret
    exact ⟨ret_bool HF.out.symm, Ext.refl _⟩
theorem iGamesOk_any (A : Option Addr) (n c : Nat) (rows : List (List Int)) (w : World) (h : Grid w A n c rows) :
    Calls Try.prog 16 #[.slice A n c] w fun e w' => e = .returned (.bool (decide (gamesOk rows))) ∧ Ext w w' := by
  have HL := hide h.len
  have HI := hide h; clear h
  have eg : Enters Try.prog 46 := enters_of Try.func46 (by kernel_rfl) rfl
  have EG := hide eg; clear eg
  by_cases h18 : n ≤ 18
  · have h18' : decide ((n : Int) ≤ 18) = true := by simp; omega
    have HF := hide (gamesOk_yes (rows := rows) (by have := HL.out; omega))
    go_enter Try.func16, Try.ntmps16
    go_wp2_with (go_at_call 45; refine (ContainsFuncG_any _ _ (fun g => !decide (gameOk g)) EG.out _ _ _ rows _ HI.out (gamesOk_pred rows _)).mono ?_; rintro e w1 ⟨rfl, hE1⟩)
    go_ret
    exact ⟨ret_bool HF.out.symm, hE1⟩
  · have h18' : decide ((n : Int) ≤ 18) = false := by simp; omega
    have HF := hide (gamesOk_no (rows := rows) (by have := HL.out; omega))
    go_enter Try.func16, Try.ntmps16
    go_wp2
    go_ret
    exact ⟨ret_bool HF.out.symm, Ext.refl _⟩
-- spec.GamesOk
theorem sGamesOk_any (A : Option Addr) (n c : Nat) (rows : List (List Int)) (w : World) (h : Grid w A n c rows) :
    Calls Try.prog 14 #[.slice A n c] w fun e w' => e = .returned (.bool (decide (gamesOk rows))) ∧ w = w' := by
  have HL := hide h.len
  have hle := h.le
  have hmx := h.max
  by_cases h18 : n ≤ 18
  · go_enter Try.func14, Try.ntmps14
    go_wp2
    go_loop [10] (fun i => ∃ k : Nat, k ≤ n ∧ i = .int .i64 k ∧ Hid (∀ g ∈ rows.take k, gameOk g)) (fun i => n - (intOf i).toNat)
    case atStart => exact ⟨0, Nat.zero_le _, rfl, hide (by simp)⟩
    case round =>
      obtain ⟨k, hk, rfl, HV⟩ := hrel
      by_cases hlt : k < n
      · obtain ⟨b, off, B, d, r, rfl, hb, hx, hc, hi⟩ := h.get hlt
        have HX := hide hx; clear hx
        by_cases h2 : r.length = 2
        · obtain ⟨b1, o1, x, rfl, hb1, hx1, wx, hc1⟩ := hi.get (k := 0) (by omega)
          obtain ⟨b2, o2, y, e2, hb2, hy1, wy, hc2⟩ := hi.get (k := 1) (by omega)
          cases e2
          have hr : r = [x, y] := by
            match r, h2 with
            | [p, q], _ => simp at hx1 hy1; rw [hx1, hy1]
          subst hr
          clear hx1 hy1 hi h2
          simp only [Nat.add_zero] at hc1
          by_cases hx5 : 0 ≤ x ∧ x ≤ 5
          · by_cases hy5 : 0 ≤ y ∧ y ≤ 5
            · go_wp2_with (first | (go_at_call 44; refine (l01In_any _ _ _ _).mono ?_; rintro e w' ⟨rfl, rfl⟩))
              go_round
              case rel =>
                refine ⟨k + 1, by omega, by go_num, hide ?_⟩
                rw [take_snoc_of HX.out]
                intro g hg
                rcases List.mem_append.1 hg with hg | hg
                · exact HV.out g hg
                · obtain rfl : g = [x, y] := by simpa using hg
                  exact ⟨rfl, fun z hz => by simp at hz; rcases hz with rfl | rfl <;> assumption⟩
              case measure => (simp [intOf] <;> omega)
            · go_wp2_with (first | (go_at_call 44; refine (l01In_any _ _ _ _).mono ?_; rintro e w' ⟨rfl, rfl⟩))
              go_ret
              exact ⟨ret_bool (by symm; rw [decide_eq_false_iff_not]; intro hg; have := (hg.2 _ (List.mem_of_getElem? HX.out)).2 y (by simp); omega), rfl⟩
          · go_wp2_with (first | (go_at_call 44; refine (l01In_any _ _ _ _).mono ?_; rintro e w' ⟨rfl, rfl⟩))
            go_ret
            exact ⟨ret_bool (by symm; rw [decide_eq_false_iff_not]; intro hg; have := (hg.2 _ (List.mem_of_getElem? HX.out)).2 x (by simp); omega), rfl⟩
        · have h2' : ((r.length : Int) != 2) = true := by rw [bne_iff_ne]; omega
          have H2 := hide h2; clear h2
          go_wp2
          go_ret
          exact ⟨ret_bool (by symm; rw [decide_eq_false_iff_not]; intro hg; exact H2.out (hg.2 _ (List.mem_of_getElem? HX.out)).1), rfl⟩
      · have : k = n := by omega
        subst this
        go_wp2
        go_ret
        exact ⟨ret_bool (by symm; rw [decide_eq_true_eq]; have := HV.out; rw [take_len HL.out] at this; exact ⟨by have := HL.out; omega, this⟩), rfl⟩
  · go_enter Try.func14, Try.ntmps14
    go_wp2
    go_ret
    exact ⟨ret_bool (by symm; rw [decide_eq_false_iff_not]; intro hg; have := HL.out; have := hg.1; omega), rfl⟩
-- law GamesOk
theorem law_GamesOk (A0 : Option Addr) (n0 c0 : Nat) (xs0 : List (List Int)) (w : World) (h0 : Grid w A0 n0 c0 xs0) :
    Calls Try.prog 3 #[.slice A0 n0 c0] w fun e w' => e = .returned (.bool true) ∧ Ext w w' := by
  have hl0 := h0.len; subst hl0
  have HI0 := hide h0; clear h0
  by_cases hs0 : (bulk xs0 : Int) ≤ 1048576
  · skip
    have hb0 : bulk xs0 ≤ 1048576 := by omega
    have hbt0 : tot xs0 ≤ 1048576 := by have h := hb0; unfold bulk at h; omega
    go_enter Try.func3, Try.ntmps3
    have HSZ := hide (szLeft_yes (n := bulk xs0) (left := 1048576) (by omega))
    go_wp2_with fail
    refine (szIntSS_any _ _ _ xs0 _ _ HI0.out (by omega) (by omega)).mono ?_; rw [HSZ.out]; rintro e w' ⟨rfl, rfl⟩
    clear HSZ
    go_wp2_with fail
    refine (toIntSS_any _ _ _ xs0 _ HI0.out hb0).mono ?_; rintro e w1 ⟨At1, ct1, rfl, ho, hE⟩
    have hz1 := hE.size
    have HE := hide hE
    clear hE
    have HOt1 := hide ho; clear ho
    go_wp2_with fail
    refine (sGamesOk_any _ _ _ xs0 _ HOt1.out.grid).mono ?_; rintro e w' ⟨rfl, rfl⟩
    go_wp2_with fail
    refine (toIntSS_any _ _ _ xs0 _ (HI0.out.ext HE.out) hb0).mono ?_; rintro e w2 ⟨Ax0, cx0, rfl, ho, hE⟩
    replace HOt1 := hide (HOt1.out.ext hE)
    have hz2 := hE.size
    replace HE := hide (HE.out.trans hE)
    clear hE
    have HOx0 := hide ho; clear ho
    go_wp2_with fail
    refine (iGamesOk_any _ _ _ xs0 _ HOx0.out.grid).mono ?_; rintro e w3 ⟨rfl, hE⟩
    replace HOt1 := hide (HOt1.out.ext hE)
    replace HOx0 := hide (HOx0.out.ext hE)
    have hz3 := hE.size
    replace HE := hide (HE.out.trans hE)
    clear hE
    go_wp2_with fail
    refine (toIntSS_any _ _ _ xs0 _ (HI0.out.ext HE.out) hb0).mono ?_; rintro e w4 ⟨At3, ct3, rfl, ho, hE⟩
    replace HOt1 := hide (HOt1.out.ext hE)
    replace HOx0 := hide (HOx0.out.ext hE)
    have hz4 := hE.size
    replace HE := hide (HE.out.trans hE)
    clear hE
    have HOt3 := hide ho; clear ho
    go_wp2_with fail
    refine (eqIntSS_any _ _ _ (xs0) _ _ _ (xs0) _ HOx0.out.grid HOt3.out.grid).mono ?_; rintro e w5 ⟨rfl, hE⟩
    replace HOt1 := hide (HOt1.out.ext hE)
    replace HOx0 := hide (HOx0.out.ext hE)
    replace HOt3 := hide (HOt3.out.ext hE)
    have hz5 := hE.size
    replace HE := hide (HE.out.trans hE)
    clear hE
    go_wp2
    go_ret
    exact ⟨by first | rfl | simp, HE.out⟩
  · go_enter Try.func3, Try.ntmps3
    have HSZ := hide (szLeft_no (n := bulk xs0) (left := 1048576) (by omega))
    go_wp2_with fail
    refine (szIntSS_any _ _ _ xs0 _ _ HI0.out (by omega) (by omega)).mono ?_; rw [HSZ.out]; rintro e w' ⟨rfl, rfl⟩
    clear HSZ
    go_wp2
    go_ret
    exact ⟨rfl, Ext.refl _⟩
-- spec.l20Busiest
theorem row_cells {w : World} {B : Option Addr} {d : Nat} {r : List Int} (hi : Ints w B r.length d r) (h : gameOk r) :
    ∃ b1 o1 x y, B = some ⟨b1, o1, none⟩ ∧ b1 < w.heap.size ∧ x ≤ 5 ∧ y ≤ 5 ∧ r = [((x : Nat) : Int), ((y : Nat) : Int)] ∧ w.cell? ⟨b1, o1, none⟩ = some (.int .i64 (x : Int)) ∧ w.cell? ⟨b1, o1 + 1, none⟩ = some (.int .i64 (y : Int)) := by
  obtain ⟨x, y, rfl, hx, hy⟩ := gameOk_two h
  obtain ⟨b1, o1, x', rfl, hb1, hx1, wx, hc1⟩ := hi.get (k := 0) (by simp)
  obtain ⟨b2, o2, y', e2, hb2, hy1, wy, hc2⟩ := hi.get (k := 1) (by simp)
  cases e2
  simp at hx1 hy1
  subst hx1
  subst hy1
  exact ⟨b1, o1, x, y, rfl, hb1, hx, hy, rfl, by simpa using hc1, hc2⟩
theorem run_make6 : ∀ w : World, (Instr.makeSlice 28 (.int .i64 6) (.int .i64 6)).run Try.prog w = .ok (.slice (some ⟨w.heap.size, 0, none⟩) 6 6) (w.alloc (.cells (zeroRow 6) 3)) := fun w => run_make_ints 6 (by omega) w
theorem l20Busiest_any (A : Option Addr) (n c : Nat) (rows : List (List Int)) (w : World) (h : Grid w A n c rows) (hok : gamesOk rows) :
    Calls Try.prog 48 #[.slice A n c] w fun e w' => e = .returned (.int .i64 (busiest rows)) ∧ Ext w w' := by
  have HL := hide h.len
  have hle := h.le
  have h18 : n ≤ 18 := by have := h.len; have := hok.1; omega
  have hmk := run_make6
  have hw1 := Ext.one w (.cells (zeroRow 6) 3)
  have hw2 := Ext.one (w.alloc (.cells (zeroRow 6) 3)) (.cells (zeroRow 6) 3)
  have h1 := (OwI.zeros w (base := w.heap.size) 6 (by omega) (Nat.le_refl _)).ext hw2
  have h2 := OwI.zeros (w.alloc (.cells (zeroRow 6) 3)) (base := w.heap.size) 6 (by omega) (by simp)
  rw [show List.replicate 6 (0 : Int) = counts 6 (side 0 (rows.take 0)) by simp [side, counts_nil]] at h1
  rw [show List.replicate 6 (0 : Int) = counts 6 (side 1 (rows.take 0)) by simp [side, counts_nil]] at h2
  have hsz : (w.alloc (.cells (zeroRow 6) 3)).heap.size = w.heap.size + 1 := World.size_alloc _ _
  rw [hsz] at h2
  have H1 := hide h1; have H2 := hide h2; have HE0 := hide (hw1.trans hw2)
  clear h1 h2 hw1 hw2 hsz
  go_enter Try.func48, Try.ntmps48
  go_wp2
  clear hmk
  go_loopw [5, 12] (fun m i wr => ∃ k : Nat, k ≤ n ∧ i = .int .i64 k ∧ m = .int .i64 (busiest (rows.take k)) ∧ OwI wr w.heap.size (some ⟨w.heap.size, 0, none⟩) 6 6 (counts 6 (side 0 (rows.take k))) ∧
      OwI wr w.heap.size (some ⟨w.heap.size + 1, 0, none⟩) 6 6 (counts 6 (side 1 (rows.take k))) ∧ Ext w wr) (fun _ i _ => n - (intOf i).toNat)
  case atStart => exact ⟨0, Nat.zero_le _, rfl, by simp [busiest, side, counts_nil, maxL], H1.out, H2.out, HE0.out⟩
  case round =>
    obtain ⟨k, hk, rfl, rfl, ho1, ho2, hE⟩ := hrel
    by_cases hlt : k < n
    · obtain ⟨b, off, B, d, r, rfl, hb, hx, hc0, hi⟩ := h.get hlt
      have hr := hok.2 r (List.mem_of_getElem? hx)
      obtain ⟨b1, o1, x, y, rfl, hb1, hx5, hy5, rfl, hcx0, hcy0⟩ := row_cells hi hr
      have hc := hE.get hc0
      have hcx := hE.get hcx0
      have hcy := hE.get hcy0
      obtain ⟨b2, o2, u, e2, hb2, hl2, hu, wu, hcu, hfu⟩ := ho1.get (k := x) (by omega)
      cases e2
      rw [counts_get _ (by omega)] at hu
      cases hu
      obtain ⟨b3, o3, v, e3, hb3, hl3, hv, wv, hcv, hfv⟩ := ho2.get (k := y) (by omega)
      cases e3
      rw [counts_get _ (by omega)] at hv
      cases hv
      have hu1 := cntL_bound (side 0 (rows.take k)) x
      have hv1 := cntL_bound (side 1 (rows.take k)) y
      rw [side_len] at hu1 hv1
      have hlen : (rows.take k).length ≤ k := List.length_take_le _ _
      -- the two stores
      have hs1 := ho1.store (k := x) rfl (by omega) (x := cntL (side 0 (rows.take k)) x + 1) ⟨by omega, by omega⟩
      rw [counts_snoc _ (by omega)] at hs1
      have hg1 := grown_setCell wr ⟨w.heap.size, 0 + x, none⟩ (.int .i64 (cntL (side 0 (rows.take k)) x + 1))
      have ho2' := ho2.grown hg1 (.inl (by simp))
      have hs2 := ho2'.store (k := y) rfl (by omega) (x := cntL (side 1 (rows.take k)) y + 1) ⟨by omega, by omega⟩
      rw [counts_snoc _ (by omega)] at hs2
      have hg2 := grown_setCell (wr.setCell ⟨w.heap.size, 0 + x, none⟩ (.int .i64 (cntL (side 0 (rows.take k)) x + 1))) ⟨w.heap.size + 1, 0 + y, none⟩ (.int .i64 (cntL (side 1 (rows.take k)) y + 1))
      have hs1' := hs1.grown hg2 (.inl (by simp))
      have hE2 := ((hE.setCell (p := ⟨w.heap.size, 0 + x, none⟩) (Nat.le_refl _) (.int .i64 (cntL (side 0 (rows.take k)) x + 1))).setCell (p := ⟨w.heap.size + 1, 0 + y, none⟩) (by simp) (.int .i64 (cntL (side 1 (rows.take k)) y + 1)))
      have hE1 := (hE.setCell (p := ⟨w.heap.size, 0 + x, none⟩) (Nat.le_refl _) (.int .i64 (cntL (side 0 (rows.take k)) x + 1)))
      have hcx1 := hE1.get hcx0
      have hcy1 := hE1.get hcy0
      have hcx2 := hE2.get hcx0
      have hcy2 := hE2.get hcy0
      obtain ⟨_, _, v1, e4, _, _, hv1', _, hcv1, hfv1⟩ := ho2'.get (k := y) (by omega)
      cases e4
      rw [counts_get _ (by omega)] at hv1'
      cases hv1'
      have hu2 : (counts 6 (side 0 (rows.take k) ++ [(x : Int)]))[x]? = some (cntL (side 0 (rows.take k)) x + 1) := by rw [← counts_snoc _ (by omega), List.getElem?_set]; simp [counts_len]; omega
      have hv2 : (counts 6 (side 1 (rows.take k) ++ [(y : Int)]))[y]? = some (cntL (side 1 (rows.take k)) y + 1) := by rw [← counts_snoc _ (by omega), List.getElem?_set]; simp [counts_len]; omega
      obtain ⟨_, _, u3, e5, _, _, hu3, _, hcu3, _⟩ := hs1'.get (k := x) (by omega)
      cases e5
      rw [hu2] at hu3
      cases hu3
      obtain ⟨_, _, v3, e6, _, _, hv3, _, hcv3, _⟩ := hs2.get (k := y) (by omega)
      cases e6
      rw [hv2] at hv3
      cases hv3
      have hbs := busiest_snoc hx hx5 hy5
      have hside0 := side_snoc 0 hx
      have hside1 := side_snoc 1 hx
      simp only [List.getD_cons_zero, List.getD_cons_succ] at hside0 hside1
      rw [← hside0] at hs1'
      rw [← hside1] at hs2
      simp only [Nat.zero_add] at hs1' hs2 hE2 hcu hfu hcv hfv hcx1 hcy1 hcx2 hcy2 hcv1 hfv1 hcu3 hcv3
      have HS1 := hide hs1'; have HS2 := hide hs2; have HE2 := hide hE2; have HB := hide hbs
      clear hs1 hs1' hs2 hE1 hE2 hbs hside0 hside1 hg1 hg2 ho1 ho2 ho2' hE hi hr hx wu wv hc0 hcx0 hcy0 hu2 hv2 hcv hfv
      generalize cntL (side 0 (rows.take k)) x = cu at *
      generalize cntL (side 1 (rows.take k)) y = cv at *
      go_wp2
      go_quiet (fail)
      go_wp2
      go_roundw
      case rel => exact ⟨k + 1, by omega, by go_num, by rw [HB.out]; exact congrArg _ (by repeat' split <;> omega), HS1.out.ext ((Ext.refl _).drewN _), HS2.out.ext ((Ext.refl _).drewN _), HE2.out.drewN _⟩
      case measure => (simp [intOf] <;> omega)
    · have hke : k = n := by omega
      subst hke
      have HE := hide hE; clear hE ho1 ho2
      go_wp2
      go_ret
      exact ⟨ret_int (by rw [take_len HL.out]), HE.out⟩
-- spec.BusiestTeam
theorem sBusiestTeam_any (A : Option Addr) (n c : Nat) (rows : List (List Int)) (w : World) (h : Grid w A n c rows) :
    Calls Try.prog 18 #[.slice A n c] w fun e w' => e = .returned (.int .i64 (busiestTeam rows)) ∧ Ext w w' := by
  have HI := hide h; clear h
  by_cases hok : gamesOk rows
  · have HF := hide (show busiestTeam rows = busiest rows by rw [busiestTeam, if_pos hok])
    have HO := hide hok
    go_enter Try.func18, Try.ntmps18
    go_wp2_with (first | (go_at_call 14; refine (sGamesOk_any _ _ _ rows _ HI.out).mono ?_; rintro e w' ⟨rfl, rfl⟩) | (go_at_call 48; refine (l20Busiest_any _ _ _ rows _ HI.out HO.out).mono ?_; rintro e w1 ⟨rfl, hE1⟩))
    go_ret
    exact ⟨ret_int HF.out.symm, hE1⟩
  · have HF := hide (show busiestTeam rows = -1 by rw [busiestTeam, if_neg hok])
    go_enter Try.func18, Try.ntmps18
    go_wp2_with (first | (go_at_call 14; refine (sGamesOk_any _ _ _ rows _ HI.out).mono ?_; rintro e w' ⟨rfl, rfl⟩))
    go_ret
    exact ⟨ret_int HF.out.symm, Ext.refl _⟩
-- impl.BusiestTeam
theorem zeros6 : #[Value.int .i64 0, .int .i64 0, .int .i64 0, .int .i64 0, .int .i64 0, .int .i64 0] = Array.replicate 6 (Value.int .i64 0) := rfl
/-- An array of the call's own as a slice. -/
theorem Ow.to_ints {w : World} {base E : Nat} {A : Option Addr} {n c : Nat} {xs : List Int} (h : Ow w base E A n c (xs.map (Value.int .i64))) (hw : ∀ x ∈ xs, I64 x) : Ints w A n c xs := ⟨h.rd, hw⟩
theorem counts_i64 {m : Nat} {l : List Int} (h : l.length ≤ 100) : ∀ x ∈ counts m l, I64 x := fun x hx => by
  have := counts_nonneg m l x hx
  exact ⟨by omega, by omega⟩
theorem iBusiestTeam_any (A : Option Addr) (n c : Nat) (rows : List (List Int)) (w : World) (h : Grid w A n c rows) :
    Calls Try.prog 19 #[.slice A n c] w fun e w' => e = .returned (.int .i64 (busiestTeam rows)) ∧ Ext w w' := by
  have HL := hide h.len
  have HI := hide h
  have hle := h.le
  by_cases hok : gamesOk rows
  · have HF := hide (show busiestTeam rows = busiest rows by rw [busiestTeam, if_pos hok])
    have HO := hide hok
    have h18 : n ≤ 18 := by have := h.len; have := hok.1; omega
    have hbb := busiest_bound rows
    go_enter Try.func19, Try.ntmps19
    go_wp2_with (go_at_call 16; refine (iGamesOk_any _ _ _ rows _ HI.out).mono ?_; rintro e w1 ⟨rfl, hE1⟩)
    have HE1 := hide hE1; clear hE1
    go_loopw [3, 11] (fun m i wr => ∃ (s : Nat) (v : Int), s ≤ 2 ∧ i = .int .i64 s ∧ m = .int .i64 v ∧ 0 ≤ v ∧ v ≤ 18 ∧ Hid (v = if s = 0 then 0 else if s = 1 then maxL (counts 6 (side 0 rows)) else busiest rows) ∧ Ext w wr) (fun _ i _ => 2 - (intOf i).toNat)
    case atStart => exact ⟨0, 0, by omega, rfl, rfl, by omega, by omega, hide rfl, HE1.out⟩
    case round =>
      obtain ⟨s, v, hs, rfl, rfl, hv0, hv18, HV, hE⟩ := hrel
      by_cases hlt : s < 2
      · have HE := hide hE; clear hE
        have h1 := Ow.fill wr (base := wr.heap.size) (E := 48) (.int .i64 0) 6 (by omega) (Nat.le_refl _)
        rw [← zeros6, show List.replicate 6 (Value.int .i64 0) = (counts 6 (side s (rows.take 0))).map (Value.int .i64) by simp [side, counts_nil]] at h1
        have H1 := hide h1; clear h1
        go_wp2
        obtain ⟨w0, rfl⟩ : ∃ w0 : World, w0 = wr := ⟨_, rfl⟩
        go_loopw [16] (fun i w2 => ∃ k : Nat, k ≤ n ∧ i = .int .i64 k ∧ Ow w2 w0.heap.size 48 (some ⟨w0.heap.size, 0, none⟩) 6 6 ((counts 6 (side s (rows.take k))).map (Value.int .i64)) ∧ Ext w0 w2) (fun i _ => n - (intOf i).toNat)
        case atStart => exact ⟨0, Nat.zero_le _, rfl, H1.out, Ext.one _ _⟩
        case round =>
          obtain ⟨k, hk, rfl, ho, hE2⟩ := hrel
          by_cases hlk : k < n
          · obtain ⟨b, off, B, d, r, rfl, hb, hx, hc, hi⟩ := (h.ext (HE.out.trans hE2)).get hlk
            have hr := hok.2 r (List.mem_of_getElem? hx)
            obtain ⟨b1, o1, x, y, rfl, hb1, hx5, hy5, rfl, hcx, hcy⟩ := row_cells hi hr
            have hside := side_snoc s hx
            obtain ⟨t, ht, hts, hct⟩ : ∃ t : Nat, t ≤ 5 ∧ [(x : Int), (y : Int)].getD s 0 = (t : Int) ∧ wr.cell? ⟨b1, o1 + s, none⟩ = some (.int .i64 (t : Int)) := by
              match s, hlt with
              | 0, _ => exact ⟨x, hx5, rfl, by simpa using hcx⟩
              | 1, _ => exact ⟨y, hy5, rfl, hcy⟩
            rw [hts] at hside
            obtain ⟨b3, o3, u, e3, hb3, hl3, hu, hcu, hfu⟩ := ho.get (k := t) (by omega)
            cases e3
            rw [List.getElem?_map, counts_get _ (by omega)] at hu
            cases hu
            have hu1 := cntL_bound (side s (rows.take k)) t
            rw [side_len] at hu1
            have hlen : (rows.take k).length ≤ k := List.length_take_le _ _
            have hs1 := ho.store (k := t) rfl (by omega) (.int .i64 (cntL (side s (rows.take k)) t + 1))
            rw [← List.map_set, counts_snoc _ (by omega), ← hside] at hs1
            simp only [Nat.zero_add] at hs1 hcu hfu
            have HS := hide hs1; have HE2 := hide hE2
            clear hs1 hE2 ho hi hr hx hside hts hcx hcy
            generalize cntL (side s (rows.take k)) t = cu at *
            have hs2' : (s : Int) < 2 := by omega
            go_wp2
            go_roundw
            case rel => exact ⟨k + 1, by omega, by go_num, HS.out, HE2.out.setCell (Nat.le_refl _) _⟩
            case measure => (simp [intOf] <;> omega)
          · have hke : k = n := by omega
            subst hke
            rw [take_len HL.out] at ho
            have HO2 := hide ho; have HE2 := hide hE2; clear ho hE2
            have hlr : (side s rows).length ≤ 100 := by rw [side_len]; have := HL.out; omega
            go_wp2_with (go_at_call 49; refine (Max_any _ _ _ (counts 6 (side s rows)) _ (HO2.out.to_ints (counts_i64 hlr)) (by omega) (fun x hx => (counts_nonneg 6 _ x hx).1)).mono ?_; rintro e w' ⟨rfl, rfl⟩)
            go_roundw
            case rel =>
              have hbd : maxL (counts 6 (side s rows)) ≤ 18 := maxL_le (by omega) fun x hx => by have := (counts_nonneg 6 _ x hx).2; rw [side_len] at this; have := HL.out; omega
              have hg0 := maxL_ge (counts 6 (side s rows))
              refine ⟨s + 1, max v (maxL (counts 6 (side s rows))), by omega, by go_num, congrArg _ (by split <;> omega), by omega, by omega, hide ?_, HE.out.trans HE2.out⟩
              have hv := HV.out
              match s, hlt with
              | 0, _ => simp at hv ⊢; subst hv; omega
              | 1, _ => simp at hv ⊢; subst hv; rfl
            case measure => (simp [intOf] <;> omega)
      · have hse : s = 2 := by omega
        subst hse
        have HE := hide hE; clear hE
        go_wp2
        go_ret
        exact ⟨ret_int (by have := HV.out; rw [HF.out]; simpa using this), HE.out⟩
  · have HF := hide (show busiestTeam rows = -1 by rw [busiestTeam, if_neg hok])
    go_enter Try.func19, Try.ntmps19
    go_wp2_with (go_at_call 16; refine (iGamesOk_any _ _ _ rows _ HI.out).mono ?_; rintro e w1 ⟨rfl, hE1⟩)
    go_ret
    exact ⟨ret_int HF.out.symm, hE1⟩
-- impl.FewestDays
theorem iFewestDays_any (A : Option Addr) (n c : Nat) (rows : List (List Int)) (w : World) (h : Grid w A n c rows) :
    Calls Try.prog 21 #[.slice A n c] w fun e w' => e = .returned (.int .i64 (busiestTeam rows)) ∧ Ext w w' := by
  have HI := hide h; clear h
  go_enter Try.func21, Try.ntmps21
  go_wp2_with (go_at_call 19; refine (iBusiestTeam_any _ _ _ rows _ HI.out).mono ?_; rintro e w1 ⟨rfl, hE1⟩)
  go_ret
  exact ⟨rfl, hE1⟩
-- spec.FewestDays
theorem sFewestDays_any (A : Option Addr) (n c : Nat) (rows : List (List Int)) (w : World) (h : Grid w A n c rows) :
    Calls Try.prog 20 #[.slice A n c] w fun e w' => e = .returned (.int .i64 (busiestTeam rows)) ∧ Ext w w' := by
  have HI := hide h; clear h
  go_enter Try.func20, Try.ntmps20
  go_wp2_with (go_at_call 18; refine (sBusiestTeam_any _ _ _ rows _ HI.out).mono ?_; rintro e w1 ⟨rfl, hE1⟩)
  go_ret
  exact ⟨rfl, hE1⟩
-- law BusiestTeam
theorem law_BusiestTeam (A0 : Option Addr) (n0 c0 : Nat) (xs0 : List (List Int)) (w : World) (h0 : Grid w A0 n0 c0 xs0) :
    Calls Try.prog 4 #[.slice A0 n0 c0] w fun e w' => e = .returned (.bool true) ∧ Ext w w' := by
  have hl0 := h0.len; subst hl0
  have HI0 := hide h0; clear h0
  by_cases hs0 : (bulk xs0 : Int) ≤ 1048576
  · skip
    have hb0 : bulk xs0 ≤ 1048576 := by omega
    have hbt0 : tot xs0 ≤ 1048576 := by have h := hb0; unfold bulk at h; omega
    go_enter Try.func4, Try.ntmps4
    have HSZ := hide (szLeft_yes (n := bulk xs0) (left := 1048576) (by omega))
    go_wp2_with fail
    refine (szIntSS_any _ _ _ xs0 _ _ HI0.out (by omega) (by omega)).mono ?_; rw [HSZ.out]; rintro e w' ⟨rfl, rfl⟩
    clear HSZ
    go_wp2_with fail
    refine (toIntSS_any _ _ _ xs0 _ HI0.out hb0).mono ?_; rintro e w1 ⟨At1, ct1, rfl, ho, hE⟩
    have hz1 := hE.size
    have HE := hide hE
    clear hE
    have HOt1 := hide ho; clear ho
    go_wp2_with fail
    refine (sBusiestTeam_any _ _ _ xs0 _ HOt1.out.grid).mono ?_; rintro e w2 ⟨rfl, hE⟩
    replace HOt1 := hide (HOt1.out.ext hE)
    have hz2 := hE.size
    replace HE := hide (HE.out.trans hE)
    clear hE
    go_wp2_with fail
    refine (toIntSS_any _ _ _ xs0 _ (HI0.out.ext HE.out) hb0).mono ?_; rintro e w3 ⟨Ax0, cx0, rfl, ho, hE⟩
    replace HOt1 := hide (HOt1.out.ext hE)
    have hz3 := hE.size
    replace HE := hide (HE.out.trans hE)
    clear hE
    have HOx0 := hide ho; clear ho
    go_wp2_with fail
    refine (iBusiestTeam_any _ _ _ xs0 _ HOx0.out.grid).mono ?_; rintro e w4 ⟨rfl, hE⟩
    replace HOt1 := hide (HOt1.out.ext hE)
    replace HOx0 := hide (HOx0.out.ext hE)
    have hz4 := hE.size
    replace HE := hide (HE.out.trans hE)
    clear hE
    go_wp2_with fail
    refine (toIntSS_any _ _ _ xs0 _ (HI0.out.ext HE.out) hb0).mono ?_; rintro e w5 ⟨At3, ct3, rfl, ho, hE⟩
    replace HOt1 := hide (HOt1.out.ext hE)
    replace HOx0 := hide (HOx0.out.ext hE)
    have hz5 := hE.size
    replace HE := hide (HE.out.trans hE)
    clear hE
    have HOt3 := hide ho; clear ho
    go_wp2_with fail
    refine (eqIntSS_any _ _ _ (xs0) _ _ _ (xs0) _ HOx0.out.grid HOt3.out.grid).mono ?_; rintro e w6 ⟨rfl, hE⟩
    replace HOt1 := hide (HOt1.out.ext hE)
    replace HOx0 := hide (HOx0.out.ext hE)
    replace HOt3 := hide (HOt3.out.ext hE)
    have hz6 := hE.size
    replace HE := hide (HE.out.trans hE)
    clear hE
    go_wp2
    go_ret
    exact ⟨by first | rfl | simp, HE.out⟩
  · go_enter Try.func4, Try.ntmps4
    have HSZ := hide (szLeft_no (n := bulk xs0) (left := 1048576) (by omega))
    go_wp2_with fail
    refine (szIntSS_any _ _ _ xs0 _ _ HI0.out (by omega) (by omega)).mono ?_; rw [HSZ.out]; rintro e w' ⟨rfl, rfl⟩
    clear HSZ
    go_wp2
    go_ret
    exact ⟨rfl, Ext.refl _⟩
-- law FewestDays
theorem law_FewestDays (A0 : Option Addr) (n0 c0 : Nat) (xs0 : List (List Int)) (w : World) (h0 : Grid w A0 n0 c0 xs0) :
    Calls Try.prog 5 #[.slice A0 n0 c0] w fun e w' => e = .returned (.bool true) ∧ Ext w w' := by
  have hl0 := h0.len; subst hl0
  have HI0 := hide h0; clear h0
  by_cases hs0 : (bulk xs0 : Int) ≤ 1048576
  · skip
    have hb0 : bulk xs0 ≤ 1048576 := by omega
    have hbt0 : tot xs0 ≤ 1048576 := by have h := hb0; unfold bulk at h; omega
    go_enter Try.func5, Try.ntmps5
    have HSZ := hide (szLeft_yes (n := bulk xs0) (left := 1048576) (by omega))
    go_wp2_with fail
    refine (szIntSS_any _ _ _ xs0 _ _ HI0.out (by omega) (by omega)).mono ?_; rw [HSZ.out]; rintro e w' ⟨rfl, rfl⟩
    clear HSZ
    go_wp2_with fail
    refine (toIntSS_any _ _ _ xs0 _ HI0.out hb0).mono ?_; rintro e w1 ⟨At1, ct1, rfl, ho, hE⟩
    have hz1 := hE.size
    have HE := hide hE
    clear hE
    have HOt1 := hide ho; clear ho
    go_wp2_with fail
    refine (sFewestDays_any _ _ _ xs0 _ HOt1.out.grid).mono ?_; rintro e w2 ⟨rfl, hE⟩
    replace HOt1 := hide (HOt1.out.ext hE)
    have hz2 := hE.size
    replace HE := hide (HE.out.trans hE)
    clear hE
    go_wp2_with fail
    refine (toIntSS_any _ _ _ xs0 _ (HI0.out.ext HE.out) hb0).mono ?_; rintro e w3 ⟨Ax0, cx0, rfl, ho, hE⟩
    replace HOt1 := hide (HOt1.out.ext hE)
    have hz3 := hE.size
    replace HE := hide (HE.out.trans hE)
    clear hE
    have HOx0 := hide ho; clear ho
    go_wp2_with fail
    refine (iFewestDays_any _ _ _ xs0 _ HOx0.out.grid).mono ?_; rintro e w4 ⟨rfl, hE⟩
    replace HOt1 := hide (HOt1.out.ext hE)
    replace HOx0 := hide (HOx0.out.ext hE)
    have hz4 := hE.size
    replace HE := hide (HE.out.trans hE)
    clear hE
    go_wp2_with fail
    refine (toIntSS_any _ _ _ xs0 _ (HI0.out.ext HE.out) hb0).mono ?_; rintro e w5 ⟨At3, ct3, rfl, ho, hE⟩
    replace HOt1 := hide (HOt1.out.ext hE)
    replace HOx0 := hide (HOx0.out.ext hE)
    have hz5 := hE.size
    replace HE := hide (HE.out.trans hE)
    clear hE
    have HOt3 := hide ho; clear ho
    go_wp2_with fail
    refine (eqIntSS_any _ _ _ (xs0) _ _ _ (xs0) _ HOx0.out.grid HOt3.out.grid).mono ?_; rintro e w6 ⟨rfl, hE⟩
    replace HOt1 := hide (HOt1.out.ext hE)
    replace HOx0 := hide (HOx0.out.ext hE)
    replace HOt3 := hide (HOt3.out.ext hE)
    have hz6 := hE.size
    replace HE := hide (HE.out.trans hE)
    clear hE
    go_wp2
    go_ret
    exact ⟨by first | rfl | simp, HE.out⟩
  · go_enter Try.func5, Try.ntmps5
    have HSZ := hide (szLeft_no (n := bulk xs0) (left := 1048576) (by omega))
    go_wp2_with fail
    refine (szIntSS_any _ _ _ xs0 _ _ HI0.out (by omega) (by omega)).mono ?_; rw [HSZ.out]; rintro e w' ⟨rfl, rfl⟩
    clear HSZ
    go_wp2
    go_ret
    exact ⟨rfl, Ext.refl _⟩
-- impl.IsSchedule
theorem iIsSchedule_any (A : Option Addr) (n c : Nat) (rows : List (List Int)) (A2 : Option Addr) (n2 c2 : Nat) (days : List Int) (w : World) (h : Grid w A n c rows) (h2 : Ints w A2 n2 c2 days) :
    Calls Try.prog 24 #[.slice A n c, .slice A2 n2 c2] w fun e w' => e = .returned (.bool (decide (isSchedule rows days))) ∧ Ext w w' := by
  have HL := hide h.len
  have HL2 := hide h2.len
  have HI := hide h
  have HI2 := hide h2
  have hle := h.le
  have hmx := h.max
  by_cases hok : gamesOk rows
  · have h18 : n ≤ 18 := by have := HL.out; have := hok.1; omega
    have HO := hide hok
    by_cases hnn : n2 = n
    · subst hnn
      by_cases hin : ∀ d ∈ days, 0 ≤ d ∧ d ≤ 17
      · have HIN := hide hin
        go_enter Try.func24, Try.ntmps24
        go_wp2_with (first | (go_at_call 16; refine (iGamesOk_any _ _ _ rows _ HI.out).mono ?_; rintro e w1 ⟨rfl, hE1⟩) | (go_at_call 47; refine (allWithin_any _ _ _ days _ _ _ (HI2.out.ext hE1)).mono ?_; rw [decide_eq_true HIN.out]; rintro e w2 ⟨rfl, hE2⟩))
        have HE0 := hide (hE1.trans hE2); clear hE1 hE2 hin
        go_loopw [26] (fun i wr => ∃ k : Nat, k ≤ n2 ∧ i = .int .i64 k ∧ Hid (freeTo rows days k) ∧ Ext w wr) (fun i _ => n2 - (intOf i).toNat)
        case atStart => exact ⟨0, Nat.zero_le _, rfl, hide (fun j hj => absurd hj (Nat.not_lt_zero _)), HE0.out⟩
        case round =>
          obtain ⟨i, hi, rfl, HV, hE⟩ := hrel
          by_cases hlt : i < n2
          · obtain ⟨b, off, B, d, r, rfl, hb, hx, hc, hir⟩ := (h.ext hE).get hlt
            obtain ⟨b1, o1, x, y, rfl, hb1, hx5, hy5, rfl, hcx, hcy⟩ := row_cells hir (hok.2 r (List.mem_of_getElem? hx))
            obtain ⟨b2, o2, di, rfl, hb2, hdi, wdi, hcd⟩ := (h2.ext hE).get hlt
            have HX := hide hx; have HD := hide hdi; have HE := hide hE
            clear hx hir hdi hE
            go_wp2
            obtain ⟨w0, rfl⟩ : ∃ w0 : World, w0 = wr := ⟨_, rfl⟩
            go_loopw [35] (fun j w3 => ∃ k : Nat, k ≤ i ∧ j = .int .i64 k ∧ Hid (∀ k', k' < k → ¬ clash rows days i k') ∧ Ext w0 w3) (fun j _ => i - (intOf j).toNat)
            case atStart => exact ⟨0, Nat.zero_le _, rfl, hide (fun k hk => absurd hk (Nat.not_lt_zero _)), Ext.refl _⟩
            case round =>
              obtain ⟨k, hk, rfl, HW, hE3⟩ := hrel
              have hcx3 := hE3.get hcx
              have hcy3 := hE3.get hcy
              have hcd3 := hE3.get hcd
              by_cases hkl : k < i
              · obtain ⟨b', off', B', d', r', e1, hb', hx', hc', hir'⟩ := (h.ext (HE.out.trans hE3)).get (k := k) (by omega)
                cases e1
                obtain ⟨b4, o4, x', y', rfl, hb4, hx5', hy5', rfl, hcx', hcy'⟩ := row_cells hir' (hok.2 r' (List.mem_of_getElem? hx'))
                obtain ⟨b5, o5, dk, e2, hb5, hdk, wdk, hcdk⟩ := (h2.ext (HE.out.trans hE3)).get (k := k) (by omega)
                cases e2
                have HC := hide (clash_iff HD.out hdk HX.out hx')
                have HE3 := hide hE3
                have hkn : k < n2 := by omega
                clear hx' hir' hdk hE3 hcx hcy hcd
                by_cases hdd : di = dk
                · subst hdd
                  by_cases hxx : (x : Int) = (x' : Int)
                  · have hxb : ((x : Int) == (x' : Int)) = true := by simpa using hxx
                    have HCL := hide (HC.out.2 ⟨rfl, .inl hxx⟩); clear hxx
                    go_wp2
                    go_quiet (fail)
                    go_wp2
                    go_ret
                    exact ⟨ret_bool (by symm; rw [decide_eq_false_iff_not]; intro hs; exact hs.2.2.2 i (by have := HL.out; omega) k hkl HCL.out), (HE.out.trans HE3.out).drewN _⟩
                  · have hxb : ((x : Int) == (x' : Int)) = false := by simpa using hxx
                    by_cases hyy : (y : Int) = (y' : Int)
                    · have hyb : ((y : Int) == (y' : Int)) = true := by simpa using hyy
                      have HCL := hide (HC.out.2 ⟨rfl, .inr hyy⟩); clear hxx hyy
                      go_wp2
                      go_quiet (fail)
                      go_wp2
                      go_ret
                      exact ⟨ret_bool (by symm; rw [decide_eq_false_iff_not]; intro hs; exact hs.2.2.2 i (by have := HL.out; omega) k hkl HCL.out), (HE.out.trans HE3.out).drewN _⟩
                    · have hyb : ((y : Int) == (y' : Int)) = false := by simpa using hyy
                      have HCL := hide (fun hcl => (HC.out.1 hcl).2.elim hxx hyy); clear hxx hyy
                      go_wp2
                      go_quiet (fail)
                      go_wp2
                      go_roundw
                      case rel =>
                        refine ⟨k + 1, by omega, by go_num, hide (fun k' hk' => ?_), HE3.out.drewN _⟩
                        by_cases e : k' = k
                        · subst e; exact HCL.out
                        · exact HW.out k' (by omega)
                      case measure => (simp [intOf] <;> omega)
                · have hdb : (di == dk) = false := by simpa using hdd
                  have HCL := hide (fun hcl => hdd (HC.out.1 hcl).1); clear hdd
                  go_wp2
                  go_quiet (fail)
                  go_wp2
                  go_roundw
                  case rel =>
                    refine ⟨k + 1, by omega, by go_num, hide (fun k' hk' => ?_), HE3.out.drewN _⟩
                    by_cases e : k' = k
                    · subst e; exact HCL.out
                    · exact HW.out k' (by omega)
                  case measure => (simp [intOf] <;> omega)
              · have hke : k = i := by omega
                have HK := hide hke
                have HE3 := hide hE3
                clear hke hE3 hcx hcy hcd hcx3 hcy3 hcd3
                go_wp2
                go_roundw
                case rel => exact ⟨i + 1, by omega, by go_num, hide (freeTo_succ HV.out (fun k' hk' => HW.out k' (by rw [HK.out]; exact hk'))), HE.out.trans HE3.out⟩
                case measure => (simp [intOf] <;> omega)
          · have hie : i = n2 := by omega
            subst hie
            have HE := hide hE; clear hE
            go_wp2
            go_ret
            exact ⟨ret_bool (by symm; rw [decide_eq_true_eq]; exact ⟨HO.out, by rw [HL.out, HL2.out], HIN.out, fun j hj => HV.out j (by have := HL.out; omega)⟩), HE.out⟩
      · go_enter Try.func24, Try.ntmps24
        go_wp2_with (first | (go_at_call 16; refine (iGamesOk_any _ _ _ rows _ HI.out).mono ?_; rintro e w1 ⟨rfl, hE1⟩) | (go_at_call 47; refine (allWithin_any _ _ _ days _ _ _ (HI2.out.ext hE1)).mono ?_; rw [decide_eq_false hin]; rintro e w2 ⟨rfl, hE2⟩))
        go_ret
        exact ⟨ret_bool (by symm; rw [decide_eq_false_iff_not]; exact fun hs => hin hs.2.2.1), hE1.trans hE2⟩
    · have hne : ((n2 : Int) != (n : Int)) = true := by rw [bne_iff_ne]; omega
      go_enter Try.func24, Try.ntmps24
      go_wp2_with (first | (go_at_call 16; refine (iGamesOk_any _ _ _ rows _ HI.out).mono ?_; rintro e w1 ⟨rfl, hE1⟩))
      go_ret
      exact ⟨ret_bool (by symm; rw [decide_eq_false_iff_not]; intro hs; have := hs.2.1; have := HL.out; have := HL2.out; omega), hE1⟩
  · go_enter Try.func24, Try.ntmps24
    go_wp2_with (first | (go_at_call 16; refine (iGamesOk_any _ _ _ rows _ HI.out).mono ?_; rintro e w1 ⟨rfl, hE1⟩))
    go_ret
    exact ⟨ret_bool (by symm; rw [decide_eq_false_iff_not]; exact fun hs => hok hs.1), hE1⟩
-- spec.IsSchedule
theorem sIsSchedule_any (A : Option Addr) (n c : Nat) (rows : List (List Int)) (A2 : Option Addr) (n2 c2 : Nat) (days : List Int) (w : World) (h : Grid w A n c rows) (h2 : Ints w A2 n2 c2 days) :
    Calls Try.prog 22 #[.slice A n c, .slice A2 n2 c2] w fun e w' => e = .returned (.bool (decide (isSchedule rows days))) ∧ Ext w w' := by
  have HL := hide h.len
  have HL2 := hide h2.len
  have HI := hide h
  have hle := h2.le
  have hmx := h2.max
  have hle1 := h.le
  have hmx1 := h.max
  by_cases hok : gamesOk rows
  · have h18 : n ≤ 18 := by have := HL.out; have := hok.1; omega
    have HO := hide hok
    by_cases hnn : n2 = n
    · subst hnn
      go_enter Try.func22, Try.ntmps22
      go_wp2_with (go_at_call 14; refine (sGamesOk_any _ _ _ rows _ HI.out).mono ?_; rintro e w' ⟨rfl, rfl⟩)
      go_loopw [21] (fun i wr => ∃ k : Nat, k ≤ n2 ∧ i = .int .i64 k ∧ Hid ((∀ d ∈ days.take k, 0 ≤ d ∧ d ≤ 17) ∧ freeTo rows days k) ∧ Ext w wr) (fun i _ => n2 - (intOf i).toNat)
      case atStart => exact ⟨0, Nat.zero_le _, rfl, hide ⟨by simp, fun j hj => absurd hj (Nat.not_lt_zero _)⟩, Ext.refl _⟩
      case round =>
        obtain ⟨i, hi, rfl, HV, hE⟩ := hrel
        by_cases hlt : i < n2
        · obtain ⟨b, off, B, d, r, rfl, hb, hx, hc, hir⟩ := (h.ext hE).get hlt
          obtain ⟨b1, o1, x, y, rfl, hb1, hx5, hy5, rfl, hcx, hcy⟩ := row_cells hir (hok.2 r (List.mem_of_getElem? hx))
          obtain ⟨b2, o2, di, rfl, hb2, hdi, wdi, hcd⟩ := (h2.ext hE).get hlt
          have HX := hide hx; have HD := hide hdi; have HE := hide hE
          clear hx hir hdi hE
          by_cases hin : 0 ≤ di ∧ di ≤ 17
          · go_wp2_with (go_at_call 44; refine (l01In_any _ _ _ _).mono ?_; rintro e w' ⟨rfl, rfl⟩)
            obtain ⟨w0, rfl⟩ : ∃ w0 : World, w0 = wr := ⟨_, rfl⟩
            go_loopw [33] (fun j w3 => ∃ k : Nat, k ≤ i ∧ j = .int .i64 k ∧ Hid (∀ k', k' < k → ¬ clash rows days i k') ∧ Ext w0 w3) (fun j _ => i - (intOf j).toNat)
            case atStart => exact ⟨0, Nat.zero_le _, rfl, hide (fun k hk => absurd hk (Nat.not_lt_zero _)), Ext.refl _⟩
            case round =>
              obtain ⟨k, hk, rfl, HW, hE3⟩ := hrel
              have hc3 := hE3.get hc
              have hcx3 := hE3.get hcx
              have hcy3 := hE3.get hcy
              by_cases hkl : k < i
              · obtain ⟨b', off', B', d', r', e1, hb', hx', hc', hir'⟩ := (h.ext (HE.out.trans hE3)).get (k := k) (by omega)
                cases e1
                obtain ⟨b4, o4, x', y', rfl, hb4, hx5', hy5', rfl, hcx', hcy'⟩ := row_cells hir' (hok.2 r' (List.mem_of_getElem? hx'))
                obtain ⟨b5, o5, dk, e2, hb5, hdk, wdk, hcdk⟩ := (h2.ext (HE.out.trans hE3)).get (k := k) (by omega)
                cases e2
                have HC := hide (clash_iff HD.out hdk HX.out hx')
                have HE3 := hide hE3
                have hkn : k < n2 := by omega
                clear hx' hir' hdk hE3 hcx hcy hcd hc
                by_cases hdd : di = dk
                · subst hdd
                  by_cases hxx : (x : Int) = (x' : Int)
                  · have hxb : ((x : Int) == (x' : Int)) = true := by simpa using hxx
                    have HCL := hide (HC.out.2 ⟨rfl, .inl hxx⟩); clear hxx
                    go_wp2
                    go_quiet (fail)
                    go_wp2
                    go_ret
                    exact ⟨ret_bool (by symm; rw [decide_eq_false_iff_not]; intro hs; exact hs.2.2.2 i (by have := HL.out; omega) k hkl HCL.out), (HE.out.trans HE3.out).drewN _⟩
                  · have hxb : ((x : Int) == (x' : Int)) = false := by simpa using hxx
                    by_cases hyy : (y : Int) = (y' : Int)
                    · have hyb : ((y : Int) == (y' : Int)) = true := by simpa using hyy
                      have HCL := hide (HC.out.2 ⟨rfl, .inr hyy⟩); clear hxx hyy
                      go_wp2
                      go_quiet (fail)
                      go_wp2
                      go_ret
                      exact ⟨ret_bool (by symm; rw [decide_eq_false_iff_not]; intro hs; exact hs.2.2.2 i (by have := HL.out; omega) k hkl HCL.out), (HE.out.trans HE3.out).drewN _⟩
                    · have hyb : ((y : Int) == (y' : Int)) = false := by simpa using hyy
                      have HCL := hide (fun hcl => (HC.out.1 hcl).2.elim hxx hyy); clear hxx hyy
                      go_wp2
                      go_quiet (fail)
                      go_wp2
                      go_roundw
                      case rel =>
                        refine ⟨k + 1, by omega, by go_num, hide (fun k' hk' => ?_), HE3.out.drewN _⟩
                        by_cases e : k' = k
                        · subst e; exact HCL.out
                        · exact HW.out k' (by omega)
                      case measure => (simp [intOf] <;> omega)
                · have hdb : (di == dk) = false := by simpa using hdd
                  have HCL := hide (fun hcl => hdd (HC.out.1 hcl).1); clear hdd
                  go_wp2
                  go_quiet (fail)
                  go_wp2
                  go_roundw
                  case rel =>
                    refine ⟨k + 1, by omega, by go_num, hide (fun k' hk' => ?_), HE3.out.drewN _⟩
                    by_cases e : k' = k
                    · subst e; exact HCL.out
                    · exact HW.out k' (by omega)
                  case measure => (simp [intOf] <;> omega)
              · have hke : k = i := by omega
                have HK := hide hke
                have HE3 := hide hE3
                clear hke hE3 hcx hcy hcd hcx3 hcy3 hc3
                go_wp2
                go_roundw
                case rel =>
                  refine ⟨i + 1, by omega, by go_num, hide ⟨?_, freeTo_succ HV.out.2 (fun k' hk' => HW.out k' (by rw [HK.out]; exact hk'))⟩, HE.out.trans HE3.out⟩
                  rw [take_snoc_of HD.out]
                  intro z hz
                  rcases List.mem_append.1 hz with hz | hz
                  · exact HV.out.1 z hz
                  · obtain rfl : z = di := by simpa using hz
                    exact hin
                case measure => (simp [intOf] <;> omega)
          · go_wp2_with (go_at_call 44; refine (l01In_any _ _ _ _).mono ?_; rintro e w' ⟨rfl, rfl⟩)
            go_ret
            exact ⟨ret_bool (by symm; rw [decide_eq_false_iff_not]; intro hs; exact hin (hs.2.2.1 di (List.mem_of_getElem? HD.out))), HE.out⟩
        · have hie : i = n2 := by omega
          subst hie
          have HE := hide hE; clear hE
          go_wp2
          go_ret
          exact ⟨ret_bool (by symm; rw [decide_eq_true_eq]; have hv := HV.out.1; rw [take_len HL2.out] at hv; exact ⟨HO.out, by rw [HL.out, HL2.out], hv, fun j hj => HV.out.2 j (by have := HL.out; omega)⟩), HE.out⟩
    · have hne : ((n2 : Int) != (n : Int)) = true := by rw [bne_iff_ne]; omega
      go_enter Try.func22, Try.ntmps22
      go_wp2_with (first | (go_at_call 14; refine (sGamesOk_any _ _ _ rows _ HI.out).mono ?_; rintro e w' ⟨rfl, rfl⟩))
      go_ret
      exact ⟨ret_bool (by symm; rw [decide_eq_false_iff_not]; intro hs; have := hs.2.1; have := HL.out; have := HL2.out; omega), Ext.refl _⟩
  · go_enter Try.func22, Try.ntmps22
    go_wp2_with (first | (go_at_call 14; refine (sGamesOk_any _ _ _ rows _ HI.out).mono ?_; rintro e w' ⟨rfl, rfl⟩))
    go_ret
    exact ⟨ret_bool (by symm; rw [decide_eq_false_iff_not]; exact fun hs => hok hs.1), Ext.refl _⟩
-- law IsSchedule
theorem law_IsSchedule (A0 : Option Addr) (n0 c0 : Nat) (xs0 : List (List Int)) (A1 : Option Addr) (n1 c1 : Nat) (xs1 : List Int) (w : World) (h0 : Grid w A0 n0 c0 xs0) (h1 : Ints w A1 n1 c1 xs1) :
    Calls Try.prog 6 #[.slice A0 n0 c0, .slice A1 n1 c1] w fun e w' => e = .returned (.bool true) ∧ Ext w w' := by
  have hl0 := h0.len; subst hl0
  have HI0 := hide h0; clear h0
  have hl1 := h1.len; subst hl1
  have HI1 := hide h1; clear h1
  by_cases hs1 : xs1.length ≤ 1048576
  · skip
    by_cases hs0 : (bulk xs0 : Int) ≤ 1048576
    · skip
      have hb0 : bulk xs0 ≤ 1048576 := by omega
      have hbt0 : tot xs0 ≤ 1048576 := by have h := hb0; unfold bulk at h; omega
      go_enter Try.func6, Try.ntmps6
      have HSZ := hide (szLeft_yes (n := bulk xs0) (left := 1048576) (by omega))
      go_wp2_with fail
      refine (szIntSS_any _ _ _ xs0 _ _ HI0.out (by omega) (by omega)).mono ?_; rw [HSZ.out]; rintro e w' ⟨rfl, rfl⟩
      clear HSZ
      go_wp2_with fail
      refine (toIntSS_any _ _ _ xs0 _ HI0.out hb0).mono ?_; rintro e w1 ⟨At1, ct1, rfl, ho, hE⟩
      have hz1 := hE.size
      have HE := hide hE
      clear hE
      have HOt1 := hide ho; clear ho
      go_wp2_with fail
      refine (toIntS_any _ _ _ xs1 _ (HI1.out.ext HE.out) (by omega)).mono ?_; rintro e w2 ⟨At2, ct2, rfl, ho, hE⟩
      replace HOt1 := hide (HOt1.out.ext hE)
      have hz2 := hE.size
      replace HE := hide (HE.out.trans hE)
      clear hE
      have HOt2 := hide (InI.mk_ ho); clear ho
      go_wp2_with fail
      refine (sIsSchedule_any _ _ _ xs0 _ _ _ xs1 _ HOt1.out.grid HOt2.out.ints).mono ?_; rintro e w3 ⟨rfl, hE⟩
      replace HOt1 := hide (HOt1.out.ext hE)
      replace HOt2 := hide (HOt2.out.ext hE)
      have hz3 := hE.size
      replace HE := hide (HE.out.trans hE)
      clear hE
      go_wp2_with fail
      refine (toIntSS_any _ _ _ xs0 _ (HI0.out.ext HE.out) hb0).mono ?_; rintro e w4 ⟨Ax0, cx0, rfl, ho, hE⟩
      replace HOt1 := hide (HOt1.out.ext hE)
      replace HOt2 := hide (HOt2.out.ext hE)
      have hz4 := hE.size
      replace HE := hide (HE.out.trans hE)
      clear hE
      have HOx0 := hide ho; clear ho
      go_wp2_with fail
      refine (toIntS_any _ _ _ xs1 _ (HI1.out.ext HE.out) (by omega)).mono ?_; rintro e w5 ⟨Ax1, cx1, rfl, ho, hE⟩
      replace HOt1 := hide (HOt1.out.ext hE)
      replace HOt2 := hide (HOt2.out.ext hE)
      replace HOx0 := hide (HOx0.out.ext hE)
      have hz5 := hE.size
      replace HE := hide (HE.out.trans hE)
      clear hE
      have HOx1 := hide (InI.mk_ ho); clear ho
      go_wp2_with fail
      refine (iIsSchedule_any _ _ _ xs0 _ _ _ xs1 _ HOx0.out.grid HOx1.out.ints).mono ?_; rintro e w6 ⟨rfl, hE⟩
      replace HOt1 := hide (HOt1.out.ext hE)
      replace HOt2 := hide (HOt2.out.ext hE)
      replace HOx0 := hide (HOx0.out.ext hE)
      replace HOx1 := hide (HOx1.out.ext hE)
      have hz6 := hE.size
      replace HE := hide (HE.out.trans hE)
      clear hE
      go_wp2_with fail
      refine (toIntSS_any _ _ _ xs0 _ (HI0.out.ext HE.out) hb0).mono ?_; rintro e w7 ⟨At5, ct5, rfl, ho, hE⟩
      replace HOt1 := hide (HOt1.out.ext hE)
      replace HOt2 := hide (HOt2.out.ext hE)
      replace HOx0 := hide (HOx0.out.ext hE)
      replace HOx1 := hide (HOx1.out.ext hE)
      have hz7 := hE.size
      replace HE := hide (HE.out.trans hE)
      clear hE
      have HOt5 := hide ho; clear ho
      go_wp2_with fail
      refine (eqIntSS_any _ _ _ (xs0) _ _ _ (xs0) _ HOx0.out.grid HOt5.out.grid).mono ?_; rintro e w8 ⟨rfl, hE⟩
      replace HOt1 := hide (HOt1.out.ext hE)
      replace HOt2 := hide (HOt2.out.ext hE)
      replace HOx0 := hide (HOx0.out.ext hE)
      replace HOx1 := hide (HOx1.out.ext hE)
      replace HOt5 := hide (HOt5.out.ext hE)
      have hz8 := hE.size
      replace HE := hide (HE.out.trans hE)
      clear hE
      go_wp2_with fail
      refine (toIntS_any _ _ _ xs1 _ (HI1.out.ext HE.out) (by omega)).mono ?_; rintro e w9 ⟨At6, ct6, rfl, ho, hE⟩
      replace HOt1 := hide (HOt1.out.ext hE)
      replace HOt2 := hide (HOt2.out.ext hE)
      replace HOx0 := hide (HOx0.out.ext hE)
      replace HOx1 := hide (HOx1.out.ext hE)
      replace HOt5 := hide (HOt5.out.ext hE)
      have hz9 := hE.size
      replace HE := hide (HE.out.trans hE)
      clear hE
      have HOt6 := hide (InI.mk_ ho); clear ho
      go_wp2_with fail
      refine (eqIntS_any _ _ _ (xs1) _ _ _ (xs1) _ HOx1.out.ints HOt6.out.ints).mono ?_; rintro e w10 ⟨rfl, hE⟩
      replace HOt1 := hide (HOt1.out.ext hE)
      replace HOt2 := hide (HOt2.out.ext hE)
      replace HOx0 := hide (HOx0.out.ext hE)
      replace HOx1 := hide (HOx1.out.ext hE)
      replace HOt5 := hide (HOt5.out.ext hE)
      replace HOt6 := hide (HOt6.out.ext hE)
      have hz10 := hE.size
      replace HE := hide (HE.out.trans hE)
      clear hE
      go_wp2
      go_ret
      exact ⟨by first | rfl | simp, HE.out⟩
    · go_enter Try.func6, Try.ntmps6
      have HSZ := hide (szLeft_no (n := bulk xs0) (left := 1048576) (by omega))
      go_wp2_with fail
      refine (szIntSS_any _ _ _ xs0 _ _ HI0.out (by omega) (by omega)).mono ?_; rw [HSZ.out]; rintro e w' ⟨rfl, rfl⟩
      clear HSZ
      go_wp2
      go_ret
      exact ⟨rfl, Ext.refl _⟩
  · go_enter Try.func6, Try.ntmps6
    go_wp2
    go_ret
    exact ⟨rfl, Ext.refl _⟩

end Go.Proofs.Ytfmdifhdmanmfaa
