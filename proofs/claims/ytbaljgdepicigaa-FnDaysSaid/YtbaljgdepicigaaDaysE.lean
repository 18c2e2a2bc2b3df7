/-
  Contracts of the functions that schedule games.
-/
import Derived.Laws.ShiftsVar
import Derived.Deep.RegionLaw
import Derived.Deep.QuietTactic
import Derived.Test.YtbaljgdepicigaaBase
import Derived.Test.YtbaljgdepicigaaMathA
import Derived.Test.YtbaljgdepicigaaMathD
import Derived.Test.YtbaljgdepicigaaLib
import Derived.Test.YtbaljgdepicigaaAid
import Derived.Test.YtbaljgdepicigaaStep
import Derived.Test.YtbaljgdepicigaaGrid
import Derived.Test.YtbaljgdepicigaaLibF
import Derived.Test.YtbaljgdepicigaaDays
import Derived.Test.YtbaljgdepicigaaMathG
import Derived.Test.YtbaljgdepicigaaDaysD
namespace Go.Proofs.Ytbaljgdepicigaa
open Go.RowKit
set_option linter.unusedVariables false

-- words of schedules
theorem sd_zero : sd 0 = 1 := rfl
theorem sd_cast (j : Nat) : (1 : Int) - (sd j : Int) = (sd (j + 1) : Int) := by have := sd_ne j; have := sd_lt j; omega
def chLenV : Value → Nat
  | .slice _ k _ => k
  | _ => 0
theorem dy_bound {x y : Int} {B : Int} (hx : 0 ≤ x ∧ x ≤ B) (hy : 0 ≤ y ∧ y ≤ B) (j : Nat) : 0 ≤ dy x y j ∧ dy x y j ≤ B := by rcases dy_or (x := x) (y := y) j with e | e <;> omega
-- impl.ScheduleGames
set_option maxHeartbeats 4000000 in
set_option maxRecDepth 100000 in
theorem iSched_any (A : Option Addr) (n c : Nat) (rows : List (List Int)) (w : World) (h : Grid w A n c rows) :
    Calls Try.prog 31 #[.slice A n c] w (RetI w (scheduled rows)) := by
  have HI := hide h
  have HL := hide h.len
  by_cases hok : gamesOk rows
  · have hn18 : n ≤ 18 := by have := HL.out; have := hok.1; omega
    have HV := hide (show scheduled rows = sched rows n by unfold scheduled; rw [if_pos hok, HL.out])
    have HK := hide hok
    have HR2 := hide (fun r hr => (hok.2 r hr).1)
    clear h hok
    go_enter Try.func31, Try.ntmps31
    go_wp2_with (go_at_call 33; refine (iGamesOk_any _ _ _ rows _ HI.out).mono ?_; rw [decide_eq_true HK.out]; rintro e w1 ⟨rfl, hE1⟩)
    have HE1 := hide hE1
    clear hE1
    go_loopw [3, 19] (fun o i wr => ∃ (k c3 : Nat) (A3 : Option Addr), k ≤ n ∧ i = .int .i64 (k : Int) ∧ o = .slice A3 k c3 ∧ Hid (OwI wr w.heap.size A3 k c3 (sched rows k)) ∧ Ext w wr) (fun _ i _ => n - (intOf i).toNat)
    case atStart => exact ⟨0, 0, none, Nat.zero_le _, rfl, rfl, hide (OwI.nil _ _), HE1.out⟩
    case round =>
      obtain ⟨k, c3, A3, hk, rfl, rfl, HO, hE⟩ := hrel
      have HER := hide hE
      clear hE
      by_cases hlt : k < n
      · obtain ⟨b, off, B, d, r, rfl, hbl, hr, hc, hi⟩ := (HI.out.ext HER.out).get hlt
        have hr2 := HR2.out r (List.mem_of_getElem? hr)
        rw [hr2] at hi hc
        have HIR := hide hi
        obtain ⟨b0, o0, g0, e0, hb0, hy0, wy0, hc0⟩ := hi.get (k := 0) (by omega)
        obtain ⟨b1, o1, g1, e1, hb1, hy1, wy1, hc1⟩ := hi.get (k := 1) (by omega)
        subst e0
        cases e1
        have hge0 : r.getD 0 0 = g0 := by simp [List.getD, hy0]
        have hge1 : r.getD 1 0 = g1 := by simp [List.getD, hy1]
        have hds := sched_ok18 HK.out.1 (k := k) (by rw [HL.out]; omega)
        have HSS := hide (sched_succ hr)
        have HT1 := hide (show teamAt rows k 1 = g1 by rw [teamAt_get hr]; exact hge1)
        simp only [Nat.add_zero] at hc0
        obtain ⟨X, hX, hXl, hX0, hX1⟩ := fre_ok rows (sched rows k) 0 g0
        obtain ⟨Y, hY, hYl, hY0, hY1⟩ := fre_ok rows (sched rows k) 1 g1
        have hX18 : X ≤ 18 := by have := hasG_le rows (sched rows k).length 0 g0; have := hds.len; omega
        have hY18 : Y ≤ 18 := by have := hasG_le rows (sched rows k).length 1 g1; have := hds.len; omega
        have HFX := hide (show fre rows (sched rows k) 0 (r.getD 0 0) = (X : Int) by rw [hge0]; exact hX)
        have HFY := hide (show fre rows (sched rows k) 1 (r.getD 1 0) = (Y : Int) by rw [hge1]; exact hY)
        have CF0 := hide (show ∀ w' : World, Ext wr w' → Calls Try.prog 101 #[.slice (some ⟨b, off, none⟩) n c, .slice A3 k c3, .int .i64 0, .int .i64 g0] w' fun e w'' => e = .returned (.int .i64 (X : Int)) ∧ w' = w'' from fun w' hw => by
          have h9 := iFree_any (some ⟨b, off, none⟩) n c rows A3 k c3 (sched rows k) 0 g0 w' (HI.out.ext (HER.out.trans hw)) (HO.out.ints.ext hw) HR2.out (by omega) (by omega) (by omega)
          rw [hX] at h9
          exact h9)
        have CF1 := hide (show ∀ w' : World, Ext wr w' → Calls Try.prog 101 #[.slice (some ⟨b, off, none⟩) n c, .slice A3 k c3, .int .i64 1, .int .i64 g1] w' fun e w'' => e = .returned (.int .i64 (Y : Int)) ∧ w' = w'' from fun w' hw => by
          have h9 := iFree_any (some ⟨b, off, none⟩) n c rows A3 k c3 (sched rows k) 1 g1 w' (HI.out.ext (HER.out.trans hw)) (HO.out.ints.ext hw) HR2.out (by omega) (by omega) (by omega)
          rw [hY] at h9
          exact h9)
        have CG := hide (show ∀ (w' : World) (q : Nat) (t d : Int), Ext wr w' → q < 2 → Calls Try.prog 102 #[.slice (some ⟨b, off, none⟩) n c, .slice A3 k c3, .int .i64 (q : Int), .int .i64 t, .int .i64 d] w' fun e w'' => e = .returned (.int .i64 (fnd rows (sched rows k) q t d)) ∧ w' = w'' from fun w' q t d hw hq =>
          iGameOn_any (some ⟨b, off, none⟩) n c rows A3 k c3 (sched rows k) q t d w' (HI.out.ext (HER.out.trans hw)) (HO.out.ints.ext hw) HR2.out hq (by omega) (by omega))
        have HDS := hide hds
        have HG1 := hide hge1
        have HY0 := hide hY0
        clear hr hi hy0 hy1 hX hX0 hX1 hY hY0 hY1 hXl hYl hds hr2 hge0 hge1
        generalize sched rows k = ds at *
        have CQ := hide (show ∀ (w' : World) (q t : Int), Ext wr w' → ((q = 0 ∧ t = g0) ∨ (q = 1 ∧ t = g1)) → Calls Try.prog 101 #[.slice (some ⟨b, off, none⟩) n c, .slice A3 k c3, .int .i64 q, .int .i64 t] w' fun e w'' => e = .returned (.int .i64 (if q = 0 then (X : Int) else (Y : Int))) ∧ Qt w' w'' from fun w' q t hw hq => by
          rcases hq with ⟨rfl, rfl⟩ | ⟨rfl, rfl⟩
          · exact (CF0.out w' hw).mono fun _ _ ⟨h1, h2⟩ => ⟨h1, by subst h2; exact Qt.refl _⟩
          · exact (CF1.out w' hw).mono fun _ _ ⟨h1, h2⟩ => ⟨h1, by subst h2; exact Qt.refl _⟩)
        clear CF0 CF1
        go_wp2
        go_quiet ((go_at_call 101; exact Calls.quiet_of (CQ.out _ _ _ ((Ext.refl _).drewN _) (by simp))))
        obtain ⟨w2, hw2⟩ : ∃ w2 : World, w2 = wr.drewN nq := ⟨_, rfl⟩
        have HE2 := hide (show Ext wr w2 by rw [hw2]; exact (Ext.refl _).drewN _)
        rw [← hw2]
        clear hw2
        have h0c := HE2.out.get hc0
        have h1c := HE2.out.get hc1
        have hcc := HE2.out.get hc
        clear hc0 hc1 hc
        by_cases hXY : X = Y
        · have hbn : ((X : Int) != (Y : Int)) = false := by simp [hXY]
          have HN := hide (show sched rows (k + 1) = ds ++ [(X : Int)] by rw [HSS.out]; exact oneMore_same HFX.out (by rw [HFY.out, hXY]))
          clear hXY
          go_wp2_with (at_builtin; refine push_ints (base := w.heap.size) rfl (.tmp 91) (.tmp 93) rfl rfl ((HO.out.ext HE2.out).ext (Ext.one _ _)) (some ⟨_, 0, none⟩) 1 1 [(X : Int)] rfl (ints_lit1 _ (base := 0) (X : Int) ⟨by omega, by omega⟩ (Nat.zero_le _)).ints (by omega) (by have := (HER.out.trans HE2.out).size; simp; omega) ?_; intro B5 d5 w5 hb5 hg5 hat5)
          go_roundw
          case rel => exact ⟨k + 1, d5, B5, by omega, by go_num, rfl, hide (by rw [HN.out]; exact hb5), ((HER.out.trans HE2.out).alloc _).grown hg5 (fun k hk => (HO.out.block k hk).1)⟩
          case measure => (simp [intOf] <;> omega)
        · have hbn : ((X : Int) != (Y : Int)) = true := by rw [bne_iff_ne]; omega
          have hxy : (X : Int) ≠ (Y : Int) := by omega
          obtain ⟨L, hL, hLk, hL0, hL1⟩ := chLen_ok HDS.out.prop hxy HY0.out
          have hkd := HDS.out.len
          have HN := hide (show sched rows (k + 1) = flT rows ds X Y g1 L ++ [(X : Int)] by
            rw [HSS.out, oneMore_diff HFX.out HFY.out hxy (by rw [HG1.out]; exact hL), HG1.out])
          have HXY := hide hxy
          have HL0 := hide hL0
          have HL1 := hide hL1
          have HB3 := hide (fun b3 (e : A3.map (·.block) = some b3) => ((HO.out.ext HE2.out).block b3 e).2)
          have CG1 := hide (show ∀ w' : World, Ext wr w' → Calls Try.prog 102 #[.slice (some ⟨b, off, none⟩) n c, .slice A3 k c3, .int .i64 1, .int .i64 g1, .int .i64 (X : Int)] w' fun e w'' => e = .returned (.int .i64 (gm rows ds X Y g1 0)) ∧ w' = w'' from fun w' hw => CG.out w' 1 g1 X hw (by omega))
          have CGS := hide (show ∀ (j : Nat) (w' : World), Ext wr w' → Calls Try.prog 102 #[.slice (some ⟨b, off, none⟩) n c, .slice A3 k c3, .int .i64 (sd j : Int), .int .i64 (tm rows ds X Y g1 j), .int .i64 (dy X Y j)] w' fun e w'' => e = .returned (.int .i64 (gm rows ds X Y g1 j)) ∧ w' = w'' from fun j w' hw => CG.out w' (sd j) (tm rows ds X Y g1 j) (dy X Y j) hw (sd_lt j))
          clear hxy hL hL0 hL1 hXY
          go_wp2_with (go_at_call 102; refine (CG1.out _ HE2.out).mono ?_; rintro e w' ⟨rfl, rfl⟩)
          go_loopw [8, 9, 10, 11] (fun ch s9 d10 i11 wr => ∃ (j cc : Nat) (Ac : Option Addr), j ≤ L ∧ ch = .slice Ac j cc ∧ s9 = .int .i64 (sd j : Int) ∧ d10 = .int .i64 (dy X Y j) ∧ i11 = .int .i64 (gm rows ds X Y g1 j) ∧ Hid (OwI wr w2.heap.size Ac j cc (chI rows ds X Y g1 j)) ∧ Ext w2 wr) (fun ch _ _ _ _ => L - chLenV ch)
          case atStart => exact ⟨0, 0, none, Nat.zero_le _, rfl, rfl, rfl, rfl, hide (OwI.nil _ _), Ext.refl _⟩
          case round =>
            obtain ⟨j, cc, Ac, hj, rfl, rfl, rfl, rfl, HC, hEc⟩ := hrel
            have HEc := hide hEc
            clear hEc
            by_cases hjl : j < L
            · have hge := HL1.out j hjl
              have hgp := gm_get hge
              obtain ⟨p, hp⟩ : ∃ p : Nat, gm rows ds X Y g1 j = (p : Int) := ⟨(gm rows ds X Y g1 j).toNat, by omega⟩
              have hpk : p < k := by have := hgp.2.2; rw [hp] at this; simp at this; omega
              obtain ⟨b', off', B', d', r', eA, hbl', hr', hc', hi'⟩ := HI.out.get (k := p) (by omega)
              cases eA
              have hr2' := HR2.out r' (List.mem_of_getElem? hr')
              rw [hr2'] at hi' hc'
              obtain ⟨b3, o3, y, rfl, hb3, hy, wy, hcy⟩ := hi'.get (sd_lt (j + 1))
              have hty : y = tm rows ds X Y g1 (j + 1) := by
                rw [tm_succ, hp]
                simp only [Int.toNat_natCast]
                rw [teamAt_get hr']
                simp [List.getD, hy]
              have HCH := hide (show chI rows ds X Y g1 (j + 1) = chI rows ds X Y g1 j ++ [(p : Int)] by rw [chI_succ, hp])
              have hsd := sd_cast j
              have hs1 := sd_lt (j + 1)
              have hs0 := sd_lt j
              have hs1i : (sd (j + 1) : Int) < 2 := by omega
              have hdy : (X : Int) + (Y : Int) - dy X Y j = dy X Y (j + 1) := (dy_flip j).symm
              have hd0 := dy_bound (x := (X : Int)) (y := (Y : Int)) (B := 18) ⟨by omega, by omega⟩ ⟨by omega, by omega⟩ j
              have CGJ := hide (CGS.out (j + 1))
              rw [hp] at hge ⊢
              have hpn : p < n := by omega
              have hpni : (p : Int) < (n : Int) := by omega
              have hj30 : j + 1 ≤ 65536 := by omega
              clear hgp hp hr' hi' hr2' hy
              rw [hty] at hcy wy
              clear hty
              generalize sd j = S0 at *
              generalize hS1 : sd (j + 1) = S1 at *
              generalize dy X Y j = D0 at *
              generalize hD1 : dy X Y (j + 1) = D1 at *
              have HS1 := hide hS1
              have HD1 := hide hD1
              clear hS1 hD1
              generalize tm rows ds X Y g1 (j + 1) = T1 at *
              generalize hgm1 : gm rows ds X Y g1 (j + 1) = G1 at *
              have HGM1 := hide hgm1
              clear hgm1
              go_wp2_with (first
                | (at_builtin; refine push_ints (base := w2.heap.size) rfl (.tmp 62) (.tmp 64) rfl rfl (HC.out.ext (Ext.one _ _)) (some ⟨_, 0, none⟩) 1 1 [(p : Int)] rfl (ints_lit1 _ (base := 0) (p : Int) ⟨by omega, by omega⟩ (Nat.zero_le _)).ints (by omega) (by have := HEc.out.size; simp; omega) ?_; intro B5 d5 w5 hb5 hg5 hat5; have HB5 := hide hb5; have HE5 := hide ((HEc.out.alloc (.cells #[.int .i64 (p : Int)] 3)).grown hg5 (fun k hk => (HC.out.block k hk).1)); have HEW := hide (HER.out.trans (HE2.out.trans HE5.out)); have f1 := HEW.out.get hc'; have f2 := HEW.out.get hcy; clear hb5 hg5 hat5)
                | (go_at_call 102; refine (CGJ.out _ (HE2.out.trans HE5.out)).mono ?_; rintro e w' ⟨rfl, rfl⟩))
              go_roundw
              case rel => exact ⟨j + 1, d5, B5, by omega, rfl, by rw [HS1.out], by rw [HD1.out], by rw [HGM1.out], hide (by rw [HCH.out]; exact HB5.out), HE5.out⟩
              case measure => (simp [chLenV] <;> omega)
            · have hje : j = L := by omega
              subst hje
              have hgl := HL0.out
              have hgl2 : ¬ 0 ≤ gm rows ds X Y g1 j := by omega
              go_wp2
              go_loopw [75] (fun i wr => ∃ q : Nat, q ≤ j ∧ i = .int .i64 (q : Int) ∧ Hid (OwI wr w.heap.size A3 k c3 (flT rows ds X Y g1 q)) ∧ Hid (OwI wr w2.heap.size Ac j cc (chI rows ds X Y g1 j)) ∧ Ext w wr) (fun i _ => j - (intOf i).toNat)
              case atStart => exact ⟨0, Nat.zero_le _, rfl, hide (HO.out.ext (HE2.out.trans HEc.out)), HC, HER.out.trans (HE2.out.trans HEc.out)⟩
              case round =>
                obtain ⟨q, hq, rfl, HF, HC2, hE3⟩ := hrel
                have HE3 := hide hE3
                clear hE3
                by_cases hql : q < j
                · have hgp := gm_get (HL1.out q hql)
                  obtain ⟨p, hp⟩ : ∃ p : Nat, gm rows ds X Y g1 q = (p : Int) := ⟨(gm rows ds X Y g1 q).toNat, by have := HL1.out q hql; omega⟩
                  have hpk : p < k := by have := hgp.2.2; rw [hp] at this; simp at this; omega
                  obtain ⟨bc, oc, x, rfl, hbc, hbl2, hx, wx, hcx, _⟩ := HC2.out.get hql
                  rw [chI_get rows ds X Y g1 hql, hp] at hx
                  cases hx
                  obtain ⟨b4, o4, y, rfl, hb4, hbl4, hy, wy, hcy, hfy⟩ := HF.out.get hpk
                  have hfg := flT_get HDS.out.prop HXY.out HY0.out HL1.out hql
                  have hfs := flT_succ rows ds X Y g1 q
                  rw [hfg, hp] at hfs
                  rw [hp] at hfg
                  simp only [Int.toNat_natCast] at hfs hfg
                  have hyd : y = dy X Y q := by rw [← hfg]; simp [List.getD, hy]
                  have hd0 := dy_bound (x := (X : Int)) (y := (Y : Int)) (B := 18) ⟨by omega, by omega⟩ ⟨by omega, by omega⟩ q
                  have hdb : 0 ≤ (X : Int) + (Y : Int) - dy X Y q ∧ (X : Int) + (Y : Int) - dy X Y q ≤ 18 := by rw [← dy_flip]; exact dy_bound ⟨by omega, by omega⟩ ⟨by omega, by omega⟩ _
                  have hne : ¬ b4 = bc := fun e => by have := HB3.out b4 rfl; omega
                  have hne2 : ¬ bc = b4 := fun e => hne e.symm
                  rw [hyd] at hcy
                  have HFS := hide hfs
                  have HO1 := hide (HF.out.store rfl hpk (x := (X : Int) + (Y : Int) - dy X Y q) ⟨by omega, by omega⟩)
                  have HC3 := hide (HC2.out.grown (grown_setCell wr ⟨b4, o4 + p, none⟩ (.int .i64 ((X : Int) + (Y : Int) - dy X Y q))) (.inl (by simp; exact hne2)))
                  have HE4 := hide (HE3.out.setCell (p := ⟨b4, o4 + p, none⟩) hb4 (.int .i64 ((X : Int) + (Y : Int) - dy X Y q)))
                  have hpki : (p : Int) < (k : Int) := by omega
                  clear hgp hp hy hfg hfs hyd
                  generalize dy X Y q = D0 at *
                  go_wp2
                  go_roundw
                  case rel => exact ⟨q + 1, by omega, by go_num, hide (by rw [HFS.out]; exact HO1.out), HC3, HE4.out⟩
                  case measure => (simp [intOf] <;> omega)
                · have hqe : q = j := by omega
                  subst hqe
                  go_wp2_with (at_builtin; refine push_ints (base := w.heap.size) rfl (.tmp 91) (.tmp 93) rfl rfl (HF.out.ext (Ext.one _ _)) (some ⟨_, 0, none⟩) 1 1 [(X : Int)] rfl (ints_lit1 _ (base := 0) (X : Int) ⟨by omega, by omega⟩ (Nat.zero_le _)).ints (by omega) (by have := HE3.out.size; simp; omega) ?_; intro B5 d5 w5 hb5 hg5 hat5)
                  go_roundw
                  case rel => exact ⟨k + 1, d5, B5, by omega, by go_num, rfl, hide (by rw [HN.out]; exact hb5), (HE3.out.alloc _).grown hg5 (fun k hk => (HF.out.block k hk).1)⟩
                  case measure => (simp [intOf] <;> omega)
      · have hke : k = n := by omega
        subst hke
        go_wp2
        go_ret
        rw [HV.out]
        exact RetI.mk rfl HO.out HER.out
  · have HV := hide (show scheduled rows = [] from if_neg hok)
    have HK := hide hok
    clear h hok
    go_enter Try.func31, Try.ntmps31
    go_wp2_with (go_at_call 33; refine (iGamesOk_any _ _ _ rows _ HI.out).mono ?_; rw [decide_eq_false HK.out]; rintro e w1 ⟨rfl, hE1⟩)
    go_ret
    rw [HV.out]
    exact RetI.mk rfl (OwI.nil _ _) hE1

end Go.Proofs.Ytbaljgdepicigaa
