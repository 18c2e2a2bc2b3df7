/-
  Play by Swiss rounds: the program's.
-/
import Derived.Deep.RegionLaw
import Derived.Deep.RegionHeld3
import Derived.Laws.ShiftsVar
import Derived.Test.YtbaljgdepicigaaBase
import Derived.Test.YtbaljgdepicigaaMathA
import Derived.Test.YtbaljgdepicigaaMathD
import Derived.Test.YtbaljgdepicigaaLib
import Derived.Test.YtbaljgdepicigaaAid
import Derived.Test.YtbaljgdepicigaaStep
import Derived.Test.YtbaljgdepicigaaGrid
import Derived.Test.YtbaljgdepicigaaLibF
import Derived.Test.YtbaljgdepicigaaMathB
import Derived.Test.YtbaljgdepicigaaMathU
import Derived.Test.YtbaljgdepicigaaMathO
import Derived.Test.YtbaljgdepicigaaMathS
import Derived.Test.YtbaljgdepicigaaMathP
import Derived.Test.YtbaljgdepicigaaDblB
import Derived.Test.YtbaljgdepicigaaSwiss
import Derived.Test.YtbaljgdepicigaaSwissB
import Derived.Test.YtbaljgdepicigaaSortA
import Derived.Test.YtbaljgdepicigaaTour
import Derived.Test.YtbaljgdepicigaaTourB
import Derived.Test.YtbaljgdepicigaaWin
import Derived.Test.YtbaljgdepicigaaFillD
import Derived.Test.YtbaljgdepicigaaFillE
import Derived.Test.YtbaljgdepicigaaFillF
import Derived.Test.YtbaljgdepicigaaFillG
import Derived.Test.YtbaljgdepicigaaFillH
import Derived.Test.YtbaljgdepicigaaFillI
import Derived.Test.YtbaljgdepicigaaPlayA
namespace Go.Proofs.Ytbaljgdepicigaa
open Go.RowKit
set_option linter.unusedVariables false
set_option maxRecDepth 100000

-- RetIG
theorem i64_nat {x : Nat} (h : x ≤ 1000) : I64 (x : Int) := ⟨by omega, by omega⟩
theorem RetIG.mk {w w' : World} {xs : List Int} {rows : List (List Int)} {e : Ending} {A G : Option Addr} {n c m g mid : Nat} (he : e = .returned (.tuple #[.slice A n c, .slice G m g])) (ho : InI w' w.heap.size mid A n c xs) (hg : OwG w' mid w'.heap.size G m g rows) (h1 : w.heap.size ≤ mid) (h2 : mid ≤ w'.heap.size) (hE : Ext w w') : RetIG w xs rows e w' := by
  have e1 := ho.ow.len
  have e2 := hg.len
  subst e1 e2
  exact ⟨mid, A, c, G, g, he, ho, hg, h1, h2, hE⟩
-- impl.SwissPlay
set_option maxHeartbeats 4000000 in
theorem iPlay_any (s : Int) (A : Option Addr) (n c : Nat) (xs : List Int) (r : Int) (w : World) (hs64 : I64 s) (h : Ints w A n c xs) :
    Calls Try.prog 23 #[.agg #[.int .i64 s, .slice A n c], .int .i64 r] w (RetIG w (playPts s xs r) (playRds s xs r)) := by
  have HL := hide h.len
  have HI := hide h
  have hle := h.le
  have hmx := h.max
  have HB0 := hide (Ext.one w (.cells #[.int .i64 s, .slice A n c] 33))
  have b0 : (w.alloc (.cells #[.int .i64 s, .slice A n c] 33)).cell? ⟨w.heap.size, 0, none⟩ = some (.int .i64 s) := by simp
  have b1 : (w.alloc (.cells #[.int .i64 s, .slice A n c] 33)).cell? ⟨w.heap.size, 1, none⟩ = some (.slice A n c) := by simp
  clear h
  by_cases ht : tourOk s xs
  · have HT := hide ht
    have HXN := hide (show ∀ x ∈ xs, 0 ≤ x from fun x hx => (tourOk_row ht x hx).1)
    have htz := tourOk_size ht
    rw [HL.out] at htz
    obtain ⟨hn1, hn8, rfl⟩ := htz
    clear ht
    by_cases hev : n % 2 = 1
    · have HV := hide (show playPts (n : Int) xs r = [] ∧ playRds (n : Int) xs r = [] by unfold playPts playRds; rw [if_neg (fun h => h.2.1 (by omega)), if_neg (fun h => h.2.1 (by omega))]; exact ⟨rfl, rfl⟩)
      rw [HV.out.1, HV.out.2]
      have hevi : (n : Int) % 2 = 1 := by omega
      go_enter Try.func23, Try.ntmps23
      go_wp2_with (first
        | (go_at_call 93; refine (iTourOk_any _ _ _ _ xs _ (HI.out.ext HB0.out)).mono ?_; rw [decide_eq_true HT.out]; rintro e w1 ⟨rfl, hE1⟩; have d0 := hE1.get b0; have d1 := hE1.get b1)
        | (go_at_call 94; refine (within_any _ _ _ _).mono ?_; rintro e w' ⟨rfl, rfl⟩))
      go_ret2
      exact RetIG.empty (HB0.out.trans hE1)
    · have hevi : ¬ (n : Int) % 2 = 1 := by omega
      by_cases hr : 0 ≤ r ∧ r ≤ 7
      · obtain ⟨R, rfl⟩ : ∃ R : Nat, r = (R : Int) := ⟨r.toNat, by omega⟩
        have hR7 : R ≤ 7 := by omega
        have HV := hide (show playPts (n : Int) xs (R : Int) = (stW xs R).1.pts ∧ playRds (n : Int) xs (R : Int) = (stW xs R).1.rds by
          unfold playPts playRds; rw [if_pos ⟨HT.out, hevi, hr⟩, if_pos ⟨HT.out, hevi, hr⟩, Int.toNat_natCast]; exact ⟨rfl, rfl⟩)
        rw [HV.out.1, HV.out.2]
        have hmk := run_make_ints n (by omega)
        go_enter Try.func23, Try.ntmps23
        go_wp2_with (first
          | (go_at_call 93; refine (iTourOk_any _ _ _ _ xs _ (HI.out.ext HB0.out)).mono ?_; rw [decide_eq_true HT.out]; rintro e w1 ⟨rfl, hE1⟩; have d0 := hE1.get b0; have d1 := hE1.get b1)
          | (go_at_call 94; refine (within_any _ _ _ _).mono ?_; rintro e w' ⟨rfl, rfl⟩))
        have hz1 := hE1.size
        simp only [World.size_alloc] at hz1
        have HE1 := hide (HB0.out.trans hE1)
        clear hE1
        have e0 := (Ext.one w1 (.cells (zeroRow n) 3)).get d0
        have e1 := (Ext.one w1 (.cells (zeroRow n) 3)).get d1
        go_region
        all_goals (
          have HZA := hide (show OwI (((w1.alloc (.cells (zeroRow n) 3)).alloc (.cells (zeroRow n) 3)).drew) w1.heap.size (some ⟨w1.heap.size, 0, none⟩) n n (List.replicate n 0) from ((OwI.zeros w1 n (by omega) (Nat.le_refl _)).ext (Ext.one _ _)).ext (Ext.refl _).drew)
          have HZB := hide (show OwI (((w1.alloc (.cells (zeroRow n) 3)).alloc (.cells (zeroRow n) 3)).drew) w1.heap.size (some ⟨w1.heap.size + 1, 0, none⟩) n n (List.replicate n 0) from by
            have := (OwI.zeros (w1.alloc (.cells (zeroRow n) 3)) (base := w1.heap.size) n (by omega) (by simp)).ext ((Ext.refl _).drew)
            rwa [World.size_alloc] at this)
          have HEZ := hide (show Ext w (((w1.alloc (.cells (zeroRow n) 3)).alloc (.cells (zeroRow n) 3)).drew) from ((HE1.out.alloc _).alloc _).drew)
          have hzz : (((w1.alloc (.cells (zeroRow n) 3)).alloc (.cells (zeroRow n) 3)).drew).heap.size = w1.heap.size + 2 := by simp
          have z0 : (((w1.alloc (.cells (zeroRow n) 3)).alloc (.cells (zeroRow n) 3)).drew).cell? ⟨w.heap.size, 0, none⟩ = some (.int .i64 (n : Int)) := (((Ext.one w1 _).alloc _).drew).get d0
          have z1 : (((w1.alloc (.cells (zeroRow n) 3)).alloc (.cells (zeroRow n) 3)).drew).cell? ⟨w.heap.size, 1, none⟩ = some (.slice A n c) := (((Ext.one w1 _).alloc _).drew).get d1
          clear d0 d1 e0 e1
          generalize ((w1.alloc (.cells (zeroRow n) 3)).alloc (.cells (zeroRow n) 3)).drew = Wz at *
          obtain ⟨mid, hmid⟩ : ∃ mid, mid = w1.heap.size + 2 := ⟨_, rfl⟩)
        obtain ⟨Y, hY⟩ : ∃ Y, Y = w1.heap.size + 1 := ⟨_, rfl⟩
        rw [← hY] at HZB ⊢
        obtain ⟨X, hX⟩ : ∃ X, X = w1.heap.size := ⟨_, rfl⟩
        have HP0 := hide (show OwI Wz w1.heap.size (some ⟨X, 0, none⟩) n n (List.replicate n 0) by rw [hX]; exact HZA.out)
        have HM0 := hide HZB.out
        rw [← hX]
        rotate_left
        obtain ⟨X, hX⟩ : ∃ X, X = w1.heap.size + 1 := ⟨_, rfl⟩
        rw [← hX] at HZB ⊢
        obtain ⟨Y, hY⟩ : ∃ Y, Y = w1.heap.size := ⟨_, rfl⟩
        have HM0 := hide (show OwI Wz w1.heap.size (some ⟨Y, 0, none⟩) n n (List.replicate n 0) by rw [hY]; exact HZA.out)
        have HP0 := hide HZB.out
        rw [← hY]
        all_goals (
          have hXY : X ≠ Y := by omega
          have hXl : w1.heap.size ≤ X ∧ X < mid := by omega
          have hYl : w1.heap.size ≤ Y ∧ Y < mid := by omega
          clear hX hY HZA HZB
          have hb2 : ((n : Int) % 2 == 1) = false := by simp; omega
          rw [hb2]
          go_wp2
          go_loopw [8, 34] (fun g i wr => ∃ (q c8 : Nat) (G : Option Addr), q ≤ R ∧ i = .int .i64 (q : Int) ∧ g = .slice G q c8 ∧ Hid ((stW xs q).2 = true) ∧ Hid (OwI wr w1.heap.size (some ⟨X, 0, none⟩) n n (stW xs q).1.pts) ∧ Hid (OwI wr w1.heap.size (some ⟨Y, 0, none⟩) n n (stW xs q).1.met) ∧ Hid (OwG wr mid wr.heap.size G q c8 (stW xs q).1.rds) ∧ wr.cell? ⟨w.heap.size, 0, none⟩ = some (.int .i64 (n : Int)) ∧ wr.cell? ⟨w.heap.size, 1, none⟩ = some (.slice A n c) ∧ mid ≤ wr.heap.size ∧ Hid (Ext w wr)) (fun _ i _ => R - (intOf i).toNat)
          case atStart => exact ⟨0, 0, none, Nat.zero_le _, rfl, rfl, hide rfl, hide (by simpa [stW, HL.out] using HP0.out), hide (by simpa [stW, HL.out] using HM0.out), hide (OwG.nil _ _ _), z0, z1, by omega, HEZ⟩
          case round =>
            obtain ⟨q, c8, G, hq, rfl, rfl, HGO, HPT, HMT, HGR, y0, y1, hmr, HER⟩ := hrel
            obtain ⟨w8, rfl⟩ : ∃ w8 : World, w8 = wr := ⟨_, rfl⟩
            have HSL := hide (stW_len xs q)
            have hpl0 := HSL.out.1
            have hml0 := HSL.out.2.1
            rw [HL.out] at hpl0 hml0
            by_cases hlt : q < R
            · have hqi : (q : Int) < (R : Int) := by omega
              have CP := hide (iPair_any (some ⟨X, 0, none⟩) n n (stW xs q).1.pts (some ⟨Y, 0, none⟩) n n (stW xs q).1.met w8 HPT.out.ints HMT.out.ints)
              cases hp : pairO (stW xs q).1.pts (stW xs q).1.met with
              | none =>
                have HVP := hide (show pairV (stW xs q).1.pts (stW xs q).1.met = [] ∧ pairB (stW xs q).1.pts (stW xs q).1.met = false by unfold pairV pairB; rw [hp]; exact ⟨rfl, rfl⟩)
                have HST := hide (stW_stop HGO.out hp hq)
                rw [HVP.out.1, HVP.out.2] at CP
                clear hp
                go_wp2_with (go_at_call 14; refine CP.out.mono ?_; rintro e w2 ⟨A9, c9, rfl, ho9, hE9⟩)
                go_ret2
                rw [HST.out]
                exact RetIG.mk rfl ⟨(HPT.out.ext hE9).mono (by omega), fun k hk => by cases hk; exact hXl.2⟩ ((HGR.out.ext hE9).mono (Nat.le_refl _) hE9.size) (by omega) (Nat.le_trans hmr hE9.size) (HER.out.trans hE9)
              | some p =>
                have HVP := hide (show pairV (stW xs q).1.pts (stW xs q).1.met = p ∧ pairB (stW xs q).1.pts (stW xs q).1.met = true by unfold pairV pairB; rw [hp]; exact ⟨rfl, rfl⟩)
                have HOK := hide (pairO_ok hp)
                have HNW := hide (fun a (ha : a < n) => pairO_new hp (a := a) (by omega))
                have HST := hide (stW_some HGO.out hp)
                have hpn : p.length = n := by have := HOK.out.2.2.1; omega
                rw [HVP.out.1, HVP.out.2] at CP
                clear hp
                go_wp2_with (go_at_call 14; refine CP.out.mono ?_; rintro e w2 ⟨A9, c9, rfl, ho9, hE9⟩; rw [hpn] at ho9 ⊢)
                have HA9 := hide ho9
                have HE9 := hide hE9
                have x0 := hE9.get y0
                have x1 := hE9.get y1
                have hz9 := hE9.size
                clear ho9 hE9 y0 y1
                have HPT9 := hide (HPT.out.ext HE9.out)
                have HMT9 := hide (HMT.out.ext HE9.out)
                generalize hpts : (stW xs q).1.pts = pts at *
                generalize hmet : (stW xs q).1.met = met at *
                have HSTQ := hide (And.intro hpts hmet)
                clear hpts hmet
                go_loopw [46] (fun i wk => ∃ k : Nat, k ≤ n ∧ i = .int .i64 (k : Int) ∧ Hid (OwI wk w1.heap.size (some ⟨X, 0, none⟩) n n (ptsP xs p pts k)) ∧ Hid (OwI wk w1.heap.size (some ⟨Y, 0, none⟩) n n (metP p met k)) ∧ Hid (Only w1.heap.size mid w2 wk)) (fun i _ => n - (intOf i).toNat)
                case atStart => exact ⟨0, Nat.zero_le _, rfl, hide (by rw [ptsP_zero]; exact HPT9.out), hide (by rw [metP_zero]; exact HMT9.out), hide (Only.refl _ _ _)⟩
                case round =>
                  obtain ⟨k, hk, rfl, HPK, HMK, HON⟩ := hrel
                  by_cases hkl : k < n
                  · have hki : (k : Int) < (n : Int) := by omega
                    obtain ⟨b9, o9, bi, rfl, hb9, _, hbi, wbi, hcb, _⟩ := (HA9.out.only HON.out hmr).get hkl
                    have hbr := pairsOk_all HOK.out.2.2 bi (List.mem_of_getElem? hbi)
                    obtain ⟨b, rfl⟩ : ∃ b : Nat, bi = (b : Int) := ⟨bi.toNat, by omega⟩
                    have hbn : b < n := by omega
                    have HPB := hide (show p.getD k 0 = (b : Int) by rw [List.getD, hbi]; rfl)
                    obtain ⟨bm, om, mk, e, _, _, hmk2, wmk, hcm, hfm⟩ := HMK.out.get hkl
                    cases e
                    rw [metP_get _ _ _ (by omega), if_neg (Nat.lt_irrefl _)] at hmk2
                    have hme : met.getD k 0 = mk := by simpa using hmk2
                    obtain ⟨bp, op, pk, e, _, _, hpk2, wpk, hcp, hfp⟩ := HPK.out.get hkl
                    cases e
                    rw [ptsP_get _ _ _ _ (by omega), if_neg (fun h => Nat.lt_irrefl _ h.1)] at hpk2
                    have hpe : pts.getD k 0 = pk := by simpa using hpk2
                    have hmr2 := HOK.out.1.2.2.1 mk (by rw [← hme, List.getD, List.getElem?_eq_getElem (show k < met.length by omega)]; exact List.getElem_mem _)
                    have hpw := pow_small (n := met.length) (by omega)
                    obtain ⟨mN, rfl⟩ : ∃ mN : Nat, mk = (mN : Int) := ⟨mk.toNat, by omega⟩
                    have hmN : mN < 256 := by omega
                    have hpr := HOK.out.1.1.2.2 pk (by rw [← hpe, List.getD, List.getElem?_eq_getElem (show k < pts.length by omega)]; exact List.getElem_mem _)
                    have hnb : mN.testBit b = false := by
                      have h9 := HNW.out k hkl
                      rw [hme, HPB.out, Int.toNat_natCast, bitAt_iff] at h9
                      simpa using h9
                    have hor := or_shl mN b hmN (by omega)
                    rw [or_small mN hmN b (by omega) hnb] at hor
                    have HMS := hide (show OwI (wr.setCell ⟨Y, k, none⟩ (.int .i64 ((mN + 2 ^ b : Nat) : Int))) w1.heap.size (some ⟨Y, 0, none⟩) n n (metP p met (k + 1)) from by
                      have h9 := HMK.out.store rfl hkl (x := ((mN + 2 ^ b : Nat) : Int)) (i64_nat (by have := Nat.pow_le_pow_right (show 0 < 2 by omega) (show b ≤ 8 by omega); omega))
                      rw [Nat.zero_add] at h9
                      have h8 := metP_succ (p := p) (met := met) (k := k) (by omega)
                      rw [hme, HPB.out, Int.toNat_natCast] at h8
                      rw [← h8]
                      simpa using h9)
                    have HON2 := hide (HON.out.trans (only_store wr (q := Y) (k := k) (.int .i64 ((mN + 2 ^ b : Nat) : Int)) hYl.1 hYl.2))
                    simp only [Nat.zero_add] at hcm hfm hcp hfp
                    clear hbi hmk2 hpk2 wmk wpk wbi hb9
                    have hcast : ((mN + 2 ^ b : Nat) : Int) = (mN : Int) + 2 ^ b := by simp
                    rw [hcast] at HMS HON2
                    obtain ⟨w9, hw9⟩ : ∃ w9 : World, w9 = (wr.setCell ⟨Y, k, none⟩ (.int .i64 ((mN : Int) + 2 ^ b))).drew := ⟨_, rfl⟩
                    have HM9 := hide (show OwI w9 w1.heap.size (some ⟨Y, 0, none⟩) n n (metP p met (k + 1)) by rw [hw9]; exact HMS.out.ext (Ext.refl _).drew)
                    have HON9 := hide (show Only w1.heap.size mid w2 w9 by rw [hw9]; exact HON2.out.trans (only_drew _ _ _))
                    have HP9 := hide (show OwI w9 w1.heap.size (some ⟨X, 0, none⟩) n n (ptsP xs p pts k) by rw [hw9]; exact (HPK.out.grown (grown_setCell _ _ _) (.inl (by simpa using hXY))).ext (Ext.refl _).drew)
                    have HE99 := hide ((HER.out.trans HE9.out).only HON9.out (by omega))
                    have hbx : w.heap.size < w2.heap.size := World.block_lt_of_cell? w2 _ x0
                    have v0 : w9.cell? ⟨w.heap.size, 0, none⟩ = some (.int .i64 (n : Int)) := (World.cell?_of_block (w := w2) (a := ⟨w.heap.size, 0, none⟩) (HON9.out.block w.heap.size hbx (by omega))).trans x0
                    have v1 : w9.cell? ⟨w.heap.size, 1, none⟩ = some (.slice A n c) := (World.cell?_of_block (w := w2) (a := ⟨w.heap.size, 1, none⟩) (HON9.out.block w.heap.size hbx (by omega))).trans x1
                    obtain ⟨bp, op, pk2, e, _, _, hpk3, _, hcp9, hfp9⟩ := HP9.out.get hkl
                    cases e
                    rw [ptsP_get _ _ _ _ (by omega), if_neg (fun h => Nat.lt_irrefl _ h.1)] at hpk3
                    obtain rfl : pk2 = pk := by rw [← hpe]; simpa using hpk3.symm
                    simp only [Nat.zero_add] at hcp9 hfp9
                    have CB := hide (iBeats_any (n : Int) A n c xs k b w9 (HI.out.ext HE99.out) hkl (by omega) HXN.out)
                    clear hpk3
                    go_wp2
                    go_region
                    rw [← hw9]
                    clear hw9 HMS HON2 hcm hfm hcp hfp
                    by_cases hbt : bts xs k b
                    · have HPS := hide (ptsP_yes (xs := xs) (p := p) (pts := pts) (k := k) (by omega) (by rw [HPB.out, Int.toNat_natCast]; exact hbt))
                      rw [hpe] at HPS
                      rw [decide_eq_true hbt] at CB
                      clear hbt
                      go_wp2_with (go_at_call 95; refine CB.out.mono ?_; rintro e w10 ⟨rfl, hE10⟩; have hcpx := hE10.get hcp9; have hfpx := (hE10.frozen (p := ⟨X, k, none⟩) (World.block_lt_of_cell? w9 _ hcp9)).trans hfp9; have HE10 := hide hE10; clear hE10)
                      have HPZ := hide (show OwI (w10.setCell ⟨X, k, none⟩ (.int .i64 (pk2 + 1))) w1.heap.size (some ⟨X, 0, none⟩) n n (ptsP xs p pts (k + 1)) by
                        have h9 := (HP9.out.ext HE10.out).store rfl hkl (x := pk2 + 1) ⟨by omega, by omega⟩
                        rw [Nat.zero_add, HPS.out] at h9
                        exact h9)
                      have HMZ := hide (show OwI (w10.setCell ⟨X, k, none⟩ (.int .i64 (pk2 + 1))) w1.heap.size (some ⟨Y, 0, none⟩) n n (metP p met (k + 1)) from (HM9.out.ext HE10.out).grown (grown_setCell _ _ _) (.inl (by simpa using Ne.symm hXY)))
                      have HOZ := hide ((HON9.out.trans (Only.of_ext HE10.out)).trans (only_store w10 (q := X) (k := k) (.int .i64 (pk2 + 1)) hXl.1 hXl.2))
                      go_roundw
                      case rel => exact ⟨k + 1, by omega, by go_num, HPZ, HMZ, HOZ⟩
                      case measure => (simp [intOf] <;> omega)
                    · have HPS := hide (ptsP_no (xs := xs) (p := p) (pts := pts) (k := k) (by omega) (by rw [HPB.out, Int.toNat_natCast]; exact hbt))
                      rw [decide_eq_false hbt] at CB
                      clear hbt
                      go_wp2_with (go_at_call 95; refine CB.out.mono ?_; rintro e w10 ⟨rfl, hE10⟩; have HE10 := hide hE10; clear hE10)
                      go_roundw
                      case rel => exact ⟨k + 1, by omega, by go_num, hide (by rw [← HPS.out]; exact HP9.out.ext HE10.out), hide (HM9.out.ext HE10.out), hide (HON9.out.trans (Only.of_ext HE10.out))⟩
                      case measure => (simp [intOf] <;> omega)
                  · have hke : k = n := by omega
                    subst hke
                    have hw8 : w8.heap.size ≤ wr.heap.size := Nat.le_trans hz9 HON.out.size
                    have hmw : mid ≤ wr.heap.size := by omega
                    have HH := hide (show OwG (headW wr w8.heap.size) mid (headW wr w8.heap.size).heap.size G q c8 (stW xs q).1.rds by
                      rw [headW_size wr hw8]
                      exact HGR.out.same fun i h1 h2 => (headW_get wr hw8 h2).trans ((HON.out.block i (by omega) (by omega)).trans (HE9.out.block h2)))
                    have HAK := hide (show OwI (wr.alloc (.cells #[.slice A9 k c9] 23)) (headW wr w8.heap.size).heap.size A9 k c9 p by
                      rw [headW_size wr hw8]
                      exact (HA9.out.only HON.out hmr).ext (Ext.one _ _))
                    have HHE := hide (show Ext (headW wr w8.heap.size) (wr.alloc (.cells #[.slice A9 k c9] 23)) from (headW_ext wr hw8).alloc _)
                    have HXC := hide (show (wr.alloc (.cells #[.slice A9 k c9] 23)).cell? ⟨wr.heap.size, 0, none⟩ = some (.slice A9 k c9) by simp)
                    have hq1 : q + 1 ≤ 1073741824 := by omega
                    have hmh : mid ≤ (headW wr w8.heap.size).heap.size := by rw [headW_size wr hw8]; exact hmr
                    have HGO1 := hide (show (stW xs (q + 1)).2 = true by rw [HST.out])
                    have HRD := hide (show (stW xs (q + 1)).1.rds = (stW xs q).1.rds ++ [p] by rw [HST.out])
                    have HPTN := hide (show (stW xs (q + 1)).1.pts = ptsP xs p pts k by rw [HST.out, HL.out])
                    have HMTN := hide (show (stW xs (q + 1)).1.met = metP p met k by rw [HST.out, HL.out])
                    go_wp2_with (at_builtin; refine push_row (w0 := headW wr w8.heap.size) (lo := mid) rfl (.tmp 70) (.tmp 72) rfl rfl HH.out HHE.out HAK.out wr.heap.size rfl HXC.out hq1 hmh ?_; intro G5 c5 w5 hg5 hz5; have HG5 := hide hg5; have HZ5 := hide (hz5 (headW wr mid) ((headW_ext wr hmw).alloc _) (by rw [headW_size wr hmw]; exact Nat.le_refl _)); have HZE := hide (hz5 w ((((HER.out.trans HE9.out).only HON.out (by omega))).alloc _) (by omega)); clear hg5 hz5)
                    have HSM := hide (show ∀ i, i < mid → w5.heap[i]? = wr.heap[i]? from fun i hi => (HZ5.out.block (by rw [headW_size wr hmw]; exact hi)).trans (headW_get wr hmw hi))
                    have hz5 : mid ≤ w5.heap.size := by have := HZ5.out.size; rw [headW_size wr hmw] at this; exact this
                    have hbx : w.heap.size < w2.heap.size := World.block_lt_of_cell? w2 _ x0
                    have v0 : w5.cell? ⟨w.heap.size, 0, none⟩ = some (.int .i64 (k : Int)) := (World.cell?_of_block (w := w2) (a := ⟨w.heap.size, 0, none⟩) ((HSM.out w.heap.size (by omega)).trans (HON.out.block w.heap.size hbx (by omega)))).trans x0
                    have v1 : w5.cell? ⟨w.heap.size, 1, none⟩ = some (.slice A k c) := (World.cell?_of_block (w := w2) (a := ⟨w.heap.size, 1, none⟩) ((HSM.out w.heap.size (by omega)).trans (HON.out.block w.heap.size hbx (by omega)))).trans x1
                    go_roundw
                    case rel => exact ⟨q + 1, c5, G5, by omega, by go_num, rfl, HGO1, hide (by rw [HPTN.out]; exact HPK.out.same fun i hi => by cases hi; exact HSM.out X hXl.2), hide (by rw [HMTN.out]; exact HMK.out.same fun i hi => by cases hi; exact HSM.out Y hYl.2), hide (by rw [HRD.out]; exact HG5.out), v0, v1, hz5, HZE⟩
                    case measure => (simp [intOf] <;> omega)
            · have hqe : q = R := by omega
              subst hqe
              go_wp2
              go_ret2
              exact RetIG.mk rfl ⟨HPT.out.mono (by omega), fun k hk => by cases hk; exact hXl.2⟩ HGR.out (by omega) hmr HER.out)
      · have HV := hide (show playPts (n : Int) xs r = [] ∧ playRds (n : Int) xs r = [] by unfold playPts playRds; rw [if_neg (fun h => hr h.2.2), if_neg (fun h => hr h.2.2)]; exact ⟨rfl, rfl⟩)
        rw [HV.out.1, HV.out.2]
        go_enter Try.func23, Try.ntmps23
        go_wp2_with (first
          | (go_at_call 93; refine (iTourOk_any _ _ _ _ xs _ (HI.out.ext HB0.out)).mono ?_; rw [decide_eq_true HT.out]; rintro e w1 ⟨rfl, hE1⟩; have d0 := hE1.get b0; have d1 := hE1.get b1)
          | (go_at_call 94; refine (within_any _ _ _ _).mono ?_; rintro e w' ⟨rfl, rfl⟩))
        all_goals go_ret2
        all_goals exact RetIG.empty (HB0.out.trans hE1)
  · have HV := hide (show playPts s xs r = [] ∧ playRds s xs r = [] by unfold playPts playRds; rw [if_neg (fun h => ht h.1), if_neg (fun h => ht h.1)]; exact ⟨rfl, rfl⟩)
    have HT := hide ht
    clear ht
    rw [HV.out.1, HV.out.2]
    go_enter Try.func23, Try.ntmps23
    go_wp2_with (first
      | (go_at_call 93; refine (iTourOk_any _ _ _ _ xs _ (HI.out.ext HB0.out)).mono ?_; rw [decide_eq_false HT.out]; rintro e w1 ⟨rfl, hE1⟩))
    go_ret2
    exact RetIG.empty (HB0.out.trans hE1)

end Go.Proofs.Ytbaljgdepicigaa
