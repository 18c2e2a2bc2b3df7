/-
  The walk of the law on brackets: the winner beats everyone on the way, and seeds that are right meet as late as they can.
-/
import Derived.Deep.RegionHeld3
import Derived.Deep.RegionLaw
import Derived.Laws.ShiftsVar
import Derived.Deep.DeepCutAuto
import Derived.Test.YtbaljgdepicigaaDoorBase
import Derived.Test.YtbaljgdepicigaaDoorMgA
import Derived.Test.YtbaljgdepicigaaDoorLib
import Derived.Test.YtbaljgdepicigaaDoorAid
import Derived.Test.YtbaljgdepicigaaDoorStep
import Derived.Test.YtbaljgdepicigaaDoorGrid
import Derived.Test.YtbaljgdepicigaaDoorLibF
import Derived.Test.YtbaljgdepicigaaDoorMathV
import Derived.Test.YtbaljgdepicigaaDoorMathBk
import Derived.Test.YtbaljgdepicigaaDoorMathBs
import Derived.Test.YtbaljgdepicigaaDoorMgB
import Derived.Test.YtbaljgdepicigaaDoorMathBo
import Derived.Test.YtbaljgdepicigaaDoorMathBp
import Derived.Test.YtbaljgdepicigaaDoorBrkP
import Derived.Test.YtbaljgdepicigaaDoorPop
import Derived.Test.YtbaljgdepicigaaDoorSeed
import Derived.Test.YtbaljgdepicigaaDoorTour
import Derived.Test.YtbaljgdepicigaaDoorTourB
import Derived.Test.YtbaljgdepicigaaDoorDblB
import Derived.Test.YtbaljgdepicigaaDoorBrack
import Derived.Test.YtbaljgdepicigaaDoorBrackB
import Derived.Test.YtbaljgdepicigaaDoorBrackC
import Derived.Test.YtbaljgdepicigaaDoorBrackD
import Derived.Test.YtbaljgdepicigaaDoorBrackE
import Derived.Test.YtbaljgdepicigaaDoorRoundA
import Derived.Test.YtbaljgdepicigaaDoorDoesA
import Derived.Test.YtbaljgdepicigaaDoorCurA
import Derived.Test.YtbaljgdepicigaaDoorCurB
import Derived.Test.YtbaljgdepicigaaDoorDrwA
import Derived.Test.YtbaljgdepicigaaDoorDrwB
import Derived.Test.YtbaljgdepicigaaDoorDrwE
import Derived.Test.YtbaljgdepicigaaDoorDrwF
import Derived.Test.YtbaljgdepicigaaDoorSwsA
import Derived.Test.YtbaljgdepicigaaDoorTrnG
import Derived.Test.YtbaljgdepicigaaDoorSortT
import Derived.Test.YtbaljgdepicigaaDoorTrnA
import Derived.Test.YtbaljgdepicigaaDoorTrnB
import Derived.Test.YtbaljgdepicigaaDoorTrnC
import Derived.Test.YtbaljgdepicigaaDoorTrnD
import Derived.Test.YtbaljgdepicigaaDoorTrnE
import Derived.Test.YtbaljgdepicigaaDoorTrnF
namespace Go.Proofs.YtbaljgdepicigaaDoor
open Go.RowKit
set_option linter.unusedVariables false
set_option maxRecDepth 100000

-- laws.FnBrackets
set_option maxHeartbeats 60000000 in
theorem law_Brackets (A : Option Addr) (n c : Nat) (bs : List Int) (w : World) (h : Bts w A n c bs) (hT : Tab w) :
    Calls Tryd.prog 4 #[.slice A n c] w fun e w' => e = .returned (.bool true) ∧ Ext w w' := by
  have HB := hide h
  have HTAB := hide hT
  have hle := h.rd.le
  have hmx := h.rd.max
  clear h hT
  by_cases hn : (1048576 : Int) < (n : Int)
  · go_enter Tryd.func4, Tryd.ntmps4
    go_wp2
    go_ret
    exact ⟨rfl, Ext.refl _⟩
  · go_enter Tryd.func4, Tryd.ntmps4
    go_wp2_with fail
    refine (makeTour_any A n c bs 0 7 w HB.out (by omega) (by omega) (by omega)).mono ?_
    rintro e w1 ⟨m, xs, B, d, hm, ht, rfl, hoB, hE1⟩
    obtain ⟨w2, hw2⟩ : ∃ w2 : World, w2 = w1.alloc (.cells #[.int .i64 (m : Int), .slice B m d] 26) := ⟨_, rfl⟩
    have hE12 : Ext w1 w2 := by rw [hw2]; exact Ext.one _ _
    obtain ⟨K, hK⟩ : ∃ K, K = w1.heap.size := ⟨_, rfl⟩
    have C0 := hide (show w2.cell? ⟨K, 0, none⟩ = some (.int .i64 (m : Int)) by rw [hw2, hK]; simp)
    have C1 := hide (show w2.cell? ⟨K, 1, none⟩ = some (.slice B m d) by rw [hw2, hK]; simp)
    have HI := hide (hoB.ints.ext hE12)
    have HX2 := hide (hE1.trans hE12)
    have HT := hide ht
    have hl : xs.length = m := by have := tourOk_size ht; omega
    have HXL := hide hl
    have HW2 := hide hw2
    have HK := hide hK
    have c0 := C0.out
    have c1 := C1.out
    clear hoB hE1 hE12 ht hw2 hK hl
    go_wp2_with fail
    rw [← HK.out, ← HW2.out]
    refine (makeBracket_any A n c bs 20 m B d xs w2 (HB.out.ext HX2.out) (by omega) HT.out HI.out).mono ?_
    rintro e w3 ⟨br, Q, q, rfl, hQ, hbo, hE3⟩
    obtain ⟨r, hbf⟩ := brk_f hbo
    have HBO := hide hbo
    have HBF := hide hbf
    have HQ3 := hide hQ
    have HX3 := hide hE3
    obtain ⟨N, hN⟩ : ∃ N, br.length = N := ⟨_, rfl⟩
    have hN8 : N ≤ 8 := by have := brk_len (bracketOk_brk hbo); omega
    rw [hN] at HQ3 ⊢
    have HNL := hide hN
    have k0 := hE3.get C0.out
    have k1 := hE3.get C1.out
    clear hQ hbo hbf hE3 c0 c1 hN
    have CWO := hide (iWinnerOf_any (m : Int) B m d xs Q N q br w3 (HI.out.ext HX3.out) HQ3.out)
    rw [show winnerOf (m : Int) xs br = winner xs br from if_pos HBO.out] at CWO
    go_wp2_with fail
    refine CWO.out.mono ?_
    rintro e w4 ⟨rfl, hE4⟩
    have HX4 := hide (HX3.out.trans hE4)
    have HQ4 := hide (HQ3.out.ext hE4)
    have j0 := hE4.get k0
    have j1 := hE4.get k1
    clear hE4 k0 k1 CWO
    obtain ⟨W, hW⟩ : ∃ W : Nat, winner xs br = (W : Int) := ⟨(winner xs br).toNat, by have := HBF.out.w0; omega⟩
    have HWV := hide hW
    have hWm : W < m := by have := HBF.out.ws; omega
    rw [hW]
    clear hW
    have HRN := hide (show roundsOf N = (r : Int) by
      have hrN : N = 2 ^ r := by rw [← HNL.out]; exact HBF.out.len
      rcases HBF.out.rnd with ⟨h1, h2⟩ | ⟨h1, h2⟩ | ⟨h1, h2⟩ | ⟨h1, h2⟩ <;> (rw [hrN, h1, h2]; rfl))
    have CRO := hide (iRounds_any Q N q w4 (HTAB.out.ext (HX2.out.trans HX4.out)))
    rw [HRN.out] at CRO
    go_wp2_with fail
    refine CRO.out.mono ?_
    rintro e w' ⟨rfl, rfl⟩
    clear CRO
    have CBO := hide (iBracketOk_any (m : Int) B m d xs Q N q br w4 (HI.out.ext HX4.out) HQ4.out)
    rw [decide_eq_true HBO.out] at CBO
    have HMEM := hide (show decide ((W : Int) ∈ br) = true from decide_eq_true (by rw [← HWV.out]; exact HBF.out.wm))
    have hsh : (wrap64 (2 ^ r) != (N : Int)) = false := by
      have h1 := shl_one r (by have := HBF.out.r3; omega)
      have h2 : N = 2 ^ r := by rw [← HNL.out]; exact HBF.out.len
      rw [h1, h2]; simp
    have hWi : ¬ (m : Int) ≤ (W : Int) := by omega
    have hr64 : r < 64 := by have := HBF.out.r3; omega
    go_upto_region 7 with fail
    go_cut [74] (fun s74 wx => s74 = .bool false ∧ Ext w4 wx)
    case first => as_aux_lemma =>
      go_wp2_with (first
        | (go_at_call 12; refine CBO.out.mono ?_; rintro e w5 ⟨rfl, hE5⟩; have l0 := hE5.get j0)
        | (go_at_call 22; refine (lhas_any Q N q br (W : Int) _ (HQ4.out.ext hE5)).mono ?_; rw [HMEM.out]; rintro e w' ⟨rfl, rfl⟩))
      go_meet
      case rel => exact ⟨by (first | rfl | (simp; done) | (simp; omega)), hE5⟩
    case rest => as_aux_lemma =>
      obtain ⟨rfl, hE5⟩ := hcut
      obtain ⟨w5, rfl⟩ : ∃ w5, w5 = wc := ⟨_, rfl⟩
      have HX5 := hide (HX4.out.trans hE5)
      have HQ5 := hide (HQ4.out.ext hE5)
      have k0 := HX5.out.get C0.out
      have k1 := HX5.out.get C1.out
      clear hE5 j0 j1 hsh hWi hr64 CBO
      have CBB := hide (fun (x : Int) (w' : World) (hE : Ext w2 w') (hq : Ints w' Q N q br) => iBeatenBy_any (m : Int) B m d xs Q N q br x w' (HI.out.ext hE) hq)
      have HBB := hide (show ∀ x, beatenBy (m : Int) xs br x = beaten xs x br from fun x => if_pos HBO.out)
      have CB1 := hide (CBB.out (W : Int) w5 HX5.out HQ5.out)
      rw [HBB.out] at CB1
      go_wp2_with fail
      refine CB1.out.mono ?_
      rintro e w6 ⟨T, tc, rfl, hoT, hE6⟩
      obtain ⟨bt, hbt⟩ : ∃ bt, beaten xs (W : Int) br = bt := ⟨_, rfl⟩
      obtain ⟨L, hL⟩ : ∃ L, bt.length = L := ⟨_, rfl⟩
      rw [hbt, hL] at hoT ⊢
      have HBT := hide (show ∀ x ∈ bt, 0 ≤ x ∧ x ≤ (m : Int) - 1 ∧ bts xs W x.toNat ∧ 1 ≤ meeting (m : Int) xs br (W : Int) x ∧ meeting (m : Int) xs br (W : Int) x = meeting (m : Int) xs br x (W : Int) from fun x hx => by
        have := HBF.out.bt x (by rw [HWV.out, hbt]; exact hx)
        rw [HWV.out, Int.toNat_natCast] at this
        exact this)
      have HLR := hide (show L ≤ r by rw [← hL, ← hbt, ← HWV.out]; exact HBF.out.bl)
      have HT6 := hide hoT.ints
      have HX6 := hide (HX5.out.trans hE6)
      have HQ6 := hide (HQ5.out.ext hE6)
      clear hoT hE6 hbt hL k0 k1 CB1
      have hL3 : L ≤ 3 := by have := HLR.out; have := HBF.out.r3; omega
      go_wp2
      go_loopw [81] (fun i wr => ∃ j : Nat, j ≤ L ∧ i = .int .i64 (j : Int) ∧ Hid (Ext w6 wr)) (fun i _ => L - (intOf i).toNat)
      case atStart => exact ⟨0, Nat.zero_le _, rfl, hide (Ext.refl _)⟩
      case round => as_aux_lemma =>
        obtain ⟨j, hj, rfl, HER⟩ := hrel
        obtain ⟨w7, rfl⟩ : ∃ w7 : World, w7 = wr := ⟨_, rfl⟩
        have HX7 := hide (HX6.out.trans HER.out)
        by_cases hjl : j < L
        · have hji : (j : Int) < (L : Int) := by omega
          obtain ⟨b, off, y, rfl, hbl, hy, wy, hcy⟩ := (HT6.out.ext HER.out).get hjl
          obtain ⟨h0, h1, h2, h3, h4⟩ := HBT.out y (List.mem_of_getElem? hy)
          obtain ⟨x, rfl⟩ : ∃ x : Nat, y = (x : Int) := ⟨y.toNat, by omega⟩
          rw [Int.toNat_natCast] at h2
          have hxm : x < m := by omega
          have CD := hide (fun (e : After w7) => iDoes_any m B d xs W x e.val HT.out (HI.out.ext (HX7.out.trans e.property)) hWm hxm)
          rw [decide_eq_true h2] at CD
          have CM1 := hide (fun (e : After w7) => iMeeting_any (m : Int) B m d xs Q N q br (W : Int) (x : Int) e.val (HI.out.ext (HX7.out.trans e.property)) (HQ6.out.ext (HER.out.trans e.property)))
          have CM2 := hide (fun (e : After w7) => iMeeting_any (m : Int) B m d xs Q N q br (x : Int) (W : Int) e.val (HI.out.ext (HX7.out.trans e.property)) (HQ6.out.ext (HER.out.trans e.property)))
          rw [← h4] at CM2
          generalize meeting (m : Int) xs br (W : Int) (x : Int) = mu at *
          have hmu : ¬ mu < 1 := by omega
          clear hy hbl wy h0 h1 h2 h4
          go_upto_region 13 with fail
          have d0 := after_cell (HX7.out.get C0.out)
          have d1 := after_cell (HX7.out.get C1.out)
          clear hcy
          refine wp_region_ext (by as_aux_lemma => kernel_rfl) (by as_aux_lemma => kernel_rfl) ?_
          repeat (go_big_quiet_step ((first | (go_at_call 24; with_reducible exact after_call (CD.out _)) | (go_at_call 25; (first | with_reducible exact after_call (CM1.out _) | with_reducible exact after_call (CM2.out _))))))
          refine wpQuiet_nil ?_
          rintro w8 ⟨⟨w8, hE8⟩, rfl⟩
          clear d0 d1
          go_wp2
          go_roundw
          case rel => exact ⟨j + 1, by omega, by go_num, hide (HER.out.trans hE8)⟩
          case measure => (simp [intOf] <;> omega)
        · have hji : ¬ (j : Int) < (L : Int) := by omega
          have HQ7 := hide (HQ6.out.ext HER.out)
          clear hjl hj HER HQ6
          go_wp2
          go_loopw [11, 12, 115] (fun g p i wr => ∃ k : Nat, k ≤ N ∧ i = .int .i64 (k : Int) ∧ g = .int .i64 (gamT xs br k : Int) ∧ p = .int .i64 (plyT br k : Int) ∧ Hid (Ext w7 wr)) (fun _ _ i _ => N - (intOf i).toNat)
          case atStart => exact ⟨0, Nat.zero_le _, rfl, rfl, rfl, hide (Ext.refl _)⟩
          case round => as_aux_lemma =>
            obtain ⟨k, hk, rfl, rfl, rfl, HER⟩ := hrel
            obtain ⟨w8, rfl⟩ : ∃ w8 : World, w8 = wr := ⟨_, rfl⟩
            have HX8 := hide (HX7.out.trans HER.out)
            have hgl := gam_le xs (bracketOk_brk HBO.out) k (by rw [HNL.out]; exact hk)
            by_cases hkN : k < N
            · have hki : (k : Int) < (N : Int) := by omega
              obtain ⟨b, off, y, rfl, hbl, hy, wy, hcy⟩ := (HQ7.out.ext HER.out).get hkN
              have HG := hide (gamT_snoc xs hy)
              have HP := hide (plyT_snoc hy)
              have hbl2 := beaten_len xs y (bracketOk_brk HBO.out)
              rw [HNL.out] at hbl2
              have k0 := HX8.out.get C0.out
              have k1 := HX8.out.get C1.out
              have CB2 := hide (CBB.out y w8 HX8.out (HQ7.out.ext HER.out))
              rw [HBB.out] at CB2
              obtain ⟨bl, hbl3⟩ : ∃ bl, (beaten xs y br).length = bl := ⟨_, rfl⟩
              rw [hbl3] at HG hbl2
              obtain ⟨g0, hg0⟩ : ∃ g0, gamT xs br k = g0 := ⟨_, rfl⟩
              obtain ⟨p0, hp0⟩ : ∃ p0, plyT br k = p0 := ⟨_, rfl⟩
              rw [hg0] at HG hgl ⊢
              rw [hp0] at HP hgl ⊢
              have HB3 := hide hbl3
              clear hy hbl hbl3 hg0 hp0
              by_cases hy0 : 0 ≤ y
              · have HPN := hide (show plyT br (k + 1) = p0 + 1 by rw [HP.out]; unfold pN; rw [if_pos hy0])
                go_wp2_with fail
                refine CB2.out.mono ?_
                rintro e w9 ⟨T2, tc2, rfl, hoT2, hE9⟩
                rw [HB3.out]
                clear hoT2
                go_wp2
                go_roundw
                case rel => exact ⟨k + 1, by omega, by go_num, by rw [HG.out]; go_num, by rw [HPN.out]; go_num, hide (HER.out.trans hE9)⟩
                case measure => (simp [intOf] <;> omega)
              · have HPN := hide (show plyT br (k + 1) = p0 by rw [HP.out]; unfold pN; rw [if_neg hy0]; omega)
                go_wp2_with fail
                refine CB2.out.mono ?_
                rintro e w9 ⟨T2, tc2, rfl, hoT2, hE9⟩
                rw [HB3.out]
                clear hoT2
                go_wp2
                go_roundw
                case rel => exact ⟨k + 1, by omega, by go_num, by rw [HG.out]; go_num, by rw [HPN.out], hide (HER.out.trans hE9)⟩
                case measure => (simp [intOf] <;> omega)
            · have hkN2 : k = N := by omega
              have hki : ¬ (k : Int) < (N : Int) := by omega
              rw [hkN2] at hgl ⊢
              have HGE := hide (gam_end HBO.out.1 (bracketOk_brk HBO.out))
              rw [HNL.out] at HGE
              have HQ8 := hide (HQ7.out.ext HER.out)
              clear hkN hkN2 hk HER HQ7
              obtain ⟨gN, hgN⟩ : ∃ gN, gamT xs br N = gN := ⟨_, rfl⟩
              obtain ⟨pN', hpN⟩ : ∃ pN', plyT br N = pN' := ⟨_, rfl⟩
              rw [hgN] at hgl HGE ⊢
              rw [hpN] at hgl HGE ⊢
              clear hgN hpN
              have HGL := hide hgl
              clear hgl
              have hi0 : (itR xs br 0).length = N := HNL.out
              go_wp2
              go_loopw [10, 15] (fun s i wr => ∃ (k c' : Nat) (A' : Option Addr), k ≤ r ∧ i = .int .i64 (k : Int) ∧ s = .slice A' (itR xs br k).length c' ∧ Hid (Ints wr A' (itR xs br k).length c' (itR xs br k)) ∧ Hid (Ext w8 wr)) (fun _ i _ => r - (intOf i).toNat)
              case atStart => exact ⟨0, q, Q, Nat.zero_le _, rfl, by rw [hi0], hide (by rw [hi0]; exact HQ8.out), hide (Ext.refl _)⟩
              case round => as_aux_lemma =>
                clear hi0
                obtain ⟨i, c', A', hi, rfl, rfl, HNW, HER⟩ := hrel
                obtain ⟨w9, rfl⟩ : ∃ w9 : World, w9 = wr := ⟨_, rfl⟩
                have HX9 := hide (HX8.out.trans HER.out)
                have HR3 := hide HBF.out.r3
                by_cases hir : i < r
                · have hii : (i : Int) < (r : Int) := by omega
                  obtain ⟨g1, g2, g3, g4, g5⟩ := round_f HBF.out hir
                  have HG5 := hide g5
                  obtain ⟨u, hu⟩ : ∃ u, (itR xs br i).length = u := ⟨_, rfl⟩
                  obtain ⟨v, hv⟩ : ∃ v, (itR xs br (i + 1)).length = v := ⟨_, rfl⟩
                  have hu8 : u ≤ 8 := by have := brk_len (bracketOk_brk g1); omega
                  have huv : v * 2 = u := by omega
                  rw [hu] at HNW ⊢
                  have hvu : 2 * (v : Int) = (u : Int) := by omega
                  have hwu : IntKind.i64.wrap (u : Int) = (u : Int) := by rw [IntKind.wrap_i64]; omega
                  have CN := hide (iNextRound_any (m : Int) B m d xs A' u c' (itR xs br i) w9 (HI.out.ext HX9.out) HNW.out)
                  rw [g3] at CN
                  have HVL := hide hv
                  have HUL := hide hu
                  have k0 := HX9.out.get C0.out
                  have k1 := HX9.out.get C1.out
                  clear g1 g2 g3 g4 g5 hu hv
                  go_wp2_with fail
                  refine CN.out.mono ?_
                  rintro e w10 ⟨A2, c2, rfl, ho2, hE10⟩
                  rw [HVL.out] at ho2 ⊢
                  have HN2 := hide ho2.ints
                  have HN1 := hide (HNW.out.ext hE10)
                  have HE10 := hide (HER.out.trans hE10)
                  clear ho2 hE10 k0 k1
                  go_wp2
                  clear hvu hwu
                  go_loopw [147] (fun i wr => ∃ k : Nat, k ≤ v ∧ i = .int .i64 (k : Int) ∧ w10 = wr) (fun i _ => v - (intOf i).toNat)
                  case atStart => exact ⟨0, Nat.zero_le _, rfl, rfl⟩
                  case round => as_aux_lemma =>
                    obtain ⟨k, hk, rfl, rfl⟩ := hrel
                    by_cases hkv : k < v
                    · have hki : (k : Int) < (v : Int) := by omega
                      obtain ⟨b, off, x, rfl, hb, hx, wx, hcx⟩ := HN2.out.get hkv
                      obtain ⟨ya, yb, ha, hb2, hor⟩ := HG5.out k x hx
                      obtain ⟨z, hz⟩ : ∃ z, 2 * k = z := ⟨_, rfl⟩
                      rw [hz] at ha hb2
                      obtain ⟨b1, o1, y1, rfl, _, hy1, _, hc1⟩ := HN1.out.get (k := z) (by omega)
                      obtain ⟨b2, o2, y2, e, _, hy2, _, hc2⟩ := HN1.out.get (k := z + 1) (by omega)
                      cases e
                      rw [ha] at hy1
                      obtain rfl : ya = y1 := Option.some.inj hy1
                      rw [hb2] at hy2
                      obtain rfl : yb = y2 := Option.some.inj hy2
                      have h2k : 2 * (k : Int) = (z : Int) := by omega
                      have hwz : IntKind.i64.wrap (z : Int) = (z : Int) := by rw [IntKind.wrap_i64]; omega
                      have hzi : (z : Int) < (u : Int) := by omega
                      have hzi1 : (z : Int) + 1 < (u : Int) := by omega
                      have hz0 : (0 : Int) ≤ (z : Int) + 1 := by omega
                      have hzt : ((z : Int) + 1).toNat = z + 1 := by omega
                      have HOR := hide hor
                      clear hx ha hb2 hy1 hy2 hb hz hor
                      by_cases hxa : x = ya
                      · have hxb : (x != ya) = false := by simpa using hxa
                        clear hxa
                        go_wp2
                        go_roundw
                        case rel => exact ⟨k + 1, by omega, by go_num, trivial⟩
                        case measure => (simp [intOf] <;> omega)
                      · have hxb : (x != ya) = true := by simpa using hxa
                        have hxc : (x != yb) = false := by rcases HOR.out with h | h <;> simp_all
                        clear hxa
                        go_wp2
                        clear h2k hwz hzt
                        go_roundw
                        case rel => exact ⟨k + 1, by omega, by go_num, trivial⟩
                        case measure => (simp [intOf] <;> omega)
                    · have hki : ¬ (k : Int) < (v : Int) := by omega
                      have hr3 : r ≤ 3 := HR3.out
                      go_wp2
                      go_roundw
                      case rel => exact ⟨i + 1, c2, A2, by omega, by go_num, by rw [HVL.out], hide (by rw [HVL.out]; exact HN2.out), HE10⟩
                      case measure => (simp [intOf] <;> omega)
                · have hie : i = r := by omega
                  have HRE := hide (round_end HBF.out)
                  rw [hie, HRE.out, HWV.out] at HNW
                  rw [hie, HRE.out, HWV.out]
                  have HN1 := hide (show Ints w9 A' 1 c' [(W : Int)] from HNW.out)
                  obtain ⟨b1, o1, y1, rfl, _, hy1, _, hc1⟩ := HN1.out.get (k := 0) (by omega)
                  obtain rfl : (W : Int) = y1 := by simpa using hy1
                  rw [Nat.add_zero] at hc1
                  have hii : ¬ (r : Int) < (r : Int) := by omega
                  have hge : (gN : Int) = (pN' : Int) - 1 := HGE.out
                  have hgb := HGL.out
                  have hge2 : (pN' : Int) - 1 = (gN : Int) := hge.symm
                  have hwg : IntKind.i64.wrap (gN : Int) = (gN : Int) := by rw [IntKind.wrap_i64]; omega
                  have hLr : ¬ (r : Int) < (L : Int) := by have := HLR.out; omega
                  simp only [List.length_singleton]
                  clear hy1 hie hir hi hge HN1 HNW
                  have HL3 := hide (OwI.lit w9 [2, 4, 8] (base := 0) (by intro x hx; simp at hx; rcases hx with rfl | rfl | rfl <;> exact ⟨by omega, by omega⟩) (by simp) (Nat.zero_le _))
                  have HE1 := hide (Ext.one w9 (.cells #[.int .i64 2, .int .i64 4, .int .i64 8] 3))
                  have HXB := hide (HX2.out.trans HX9.out)
                  go_upto_region 39 with fail
                  go_cut [192] (fun s192 wx => s192 = .bool false ∧ w9 = wx)
                  case first => as_aux_lemma =>
                    go_wp2
                    go_meet
                    case rel => exact ⟨by (first | rfl | (simp; done) | (simp; omega)), rfl⟩
                  case rest => as_aux_lemma =>
                    obtain ⟨rfl, rfl⟩ := hcut
                    clear hge2 hwg hLr hc1 hgb
                    go_wp2_with fail
                    refine (makeNum_any A n c bs 40 _ (HB.out.ext (HXB.out.trans HE1.out)) (by omega)).mono ?_
                    rintro e w10 ⟨Z, rfl, hZ, hE10⟩
                    obtain ⟨z3, hz3⟩ : ∃ z3, Z % 3 = z3 := ⟨_, rfl⟩
                    have hz3b : z3 < 3 := by omega
                    have hz3i : (Z : Int) % 3 = (z3 : Int) := by omega
                    obtain ⟨b3, o3, x3, e3, _, hx3, _, hc3⟩ := (HL3.out.ints.ext hE10).get (k := z3) (by simpa using hz3b)
                    cases e3
                    rw [Nat.zero_add] at hc3
                    have hq3 : x3 = (pw2 (z3 + 1) : Int) := by
                      match z3, hz3b, hx3 with
                      | 0, _, hx3 => simpa [pw2] using hx3.symm
                      | 1, _, hx3 => simpa [pw2] using hx3.symm
                      | 2, _, hx3 => simpa [pw2] using hx3.symm
                    obtain ⟨qq, hqq⟩ : ∃ qq, z3 + 1 = qq := ⟨_, rfl⟩
                    rw [hqq] at hq3
                    have hqq4 : qq < 4 := by omega
                    have hqq1 : 1 ≤ qq := by omega
                    obtain ⟨NN, hNN⟩ : ∃ NN, pw2 qq = NN := ⟨_, rfl⟩
                    rw [hNN] at hq3
                    have hNNb : 2 ≤ NN ∧ NN ≤ 8 := by
                      rw [← hNN]
                      match qq, hqq4, hqq1 with
                      | 1, _, _ => decide
                      | 2, _, _ => decide
                      | 3, _, _ => decide
                    subst hq3
                    have HNN := hide hNN
                    have HX10 := hide (HX9.out.trans (HE1.out.trans hE10))
                    have hz3s : (z3 : Int) < 3 := by omega
                    have CSO := hide (fun (w' : World) => iSeedOrder_any (NN : Int) w')
                    rw [show seedOrder (NN : Int) = seedTo qq by rw [← hNN]; exact seedOrder_pw2 hqq4] at CSO
                    have HSL := hide (show (seedTo qq).length = NN by rw [seedTo_len]; exact hNN)
                    have HSF := hide (fun (i k : Nat) (hi : i < NN) (hk : k < NN) (hne : i ≠ k) => (show SeedF qq i k ((seedTo qq).getD i 0) ((seedTo qq).getD k 0) from seed_all hqq4 hqq1 (by rw [hNN]; exact hi) (by rw [hNN]; exact hk) hne))
                    clear hx3 hE10 hz3 hqq hNN
                    go_wp2_with fail
                    refine (CSO.out _).mono ?_
                    rintro e w11 ⟨S, sc, rfl, hoS, hE11⟩
                    rw [HSL.out] at hoS ⊢
                    have HS := hide hoS.ints
                    have HX11 := hide (HX10.out.trans hE11)
                    have hTB := HTAB.out.ext (HX2.out.trans HX11.out)
                    have CRS := hide (fun (_ : Unit) => iRounds_any S NN sc w11 hTB)
                    rw [show roundsOf NN = (qq : Int) by
                      rw [← HNN.out]
                      match qq, hqq4, hqq1 with
                      | 1, _, _ => rfl
                      | 2, _, _ => rfl
                      | 3, _, _ => rfl] at CRS
                    have CRM := hide (fun (i k : Nat) (hi : i < NN) (hk : k < NN) => show Calls Tryd.prog 28 #[.int .i64 (NN : Int), .int .i64 (i : Int), .int .i64 (k : Int)] w11 fun e w' => e = .returned (.int .i64 (meetR i k : Int)) ∧ w11 = w' from by
                      have h1 := iRoundOfMeeting_any (NN : Int) (i : Int) (k : Int) w11
                      rw [show roundOfMeeting (NN : Int) (i : Int) (k : Int) = (meetR i k : Int) from by
                        unfold roundOfMeeting
                        rw [if_pos ⟨by rw [← HNN.out]; exact (lg_pw2 qq hqq4).2, by omega, by omega⟩, Int.toNat_natCast, Int.toNat_natCast]] at h1
                      exact h1)
                    clear hoS hE11 hTB hc3 hz3i hz3s
                    go_wp2
                    go_loopw [207] (fun i wr => ∃ k : Nat, k ≤ NN ∧ i = .int .i64 (k : Int) ∧ w11 = wr) (fun i _ => NN - (intOf i).toNat)
                    case atStart => exact ⟨0, Nat.zero_le _, rfl, rfl⟩
                    case round => as_aux_lemma =>
                      obtain ⟨i, hi, rfl, rfl⟩ := hrel
                      by_cases hiN : i < NN
                      · have hii : (i : Int) < (NN : Int) := by omega
                        obtain ⟨b, off, x, rfl, _, hx, wx, hcx⟩ := HS.out.get hiN
                        have HXI := hide (show (seedTo qq).getD i 0 = x by rw [List.getD_eq_getElem?_getD, hx]; rfl)
                        clear hx
                        go_wp2
                        go_loopw [214] (fun i wr => ∃ k : Nat, k ≤ NN ∧ i = .int .i64 (k : Int) ∧ w11 = wr) (fun i _ => NN - (intOf i).toNat)
                        case atStart => exact ⟨0, Nat.zero_le _, rfl, rfl⟩
                        case round => as_aux_lemma =>
                          obtain ⟨k, hk, rfl, rfl⟩ := hrel
                          by_cases hkN : k < NN
                          · have hki : (k : Int) < (NN : Int) := by omega
                            obtain ⟨b2, off2, y, e, _, hy, wy, hcy⟩ := HS.out.get hkN
                            cases e
                            have HYK := hide (show (seedTo qq).getD k 0 = y by rw [List.getD_eq_getElem?_getD, hy]; rfl)
                            clear hy
                            by_cases hik : i = k
                            · have hikb : ((i : Int) == (k : Int)) = true := by simp; omega
                              clear hik
                              go_wp2
                              go_roundw
                              case rel => exact ⟨k + 1, by omega, by go_num, trivial⟩
                              case measure => (simp [intOf] <;> omega)
                            · have hikb : ((i : Int) == (k : Int)) = false := by simp; omega
                              obtain ⟨f1, f2, f3, f4, f5, f6, f7, f8⟩ := HSF.out i k hiN hkN hik
                              obtain ⟨_, _, f3', _, _, _, _, _⟩ := HSF.out k i hkN hiN (fun e => hik e.symm)
                              have f4' := (HSF.out k i hkN hiN (fun e => hik e.symm)).2.2.2.1
                              rw [HXI.out, HYK.out] at f6 f7
                              rw [HXI.out] at f3 f4 f5
                              rw [HYK.out] at f5 f3' f4'
                              rw [HNN.out] at f4 f7 f4'
                              have CM1 := hide (CRM.out i k hiN hkN)
                              have CM2 := hide (CRM.out k i hkN hiN)
                              rw [← f2] at CM2
                              obtain ⟨mu, hmu⟩ : ∃ mu, meetR i k = mu := ⟨_, rfl⟩
                              rw [hmu] at f1 f6 f7 f8 CM1 CM2
                              obtain ⟨mx, hmx2⟩ : ∃ mx, max x y = mx := ⟨_, rfl⟩
                              rw [hmx2] at f6
                              have hmxi : (if x < y then y else x) = mx := by rw [← hmx2]; split <;> omega
                              have hmxb : 1 ≤ mx ∧ mx ≤ 8 := by omega
                              have HLI := hide (fun (a : Nat) (h : a ≤ lateF mx) => late_iff hmxb.1 hmxb.2 h)
                              have HF6 := hide f6
                              have HF7 := hide f7
                              have hl3 := (HLI.out 0 (Nat.zero_le _)).2
                              clear f2 f6 f7 hmu hmx2 hik
                              go_wp2_with fail
                              refine CM1.out.mono ?_
                              rintro e w' ⟨rfl, rfl⟩
                              go_wp2
                              go_loopw [26] (fun a wr => ∃ l : Nat, l ≤ lateF mx ∧ a = .int .i64 (l : Int) ∧ w11 = wr) (fun a _ => 8 - (intOf a).toNat)
                              case atStart => exact ⟨0, Nat.zero_le _, rfl, rfl⟩
                              case round => as_aux_lemma =>
                                obtain ⟨l, hll, rfl, rfl⟩ := hrel
                                have hl64 : l < 64 := by omega
                                have hiff := (HLI.out l hll).1
                                have HSH := hide (shl_natD l (by omega)).1
                                go_upto_if 231 with fail
                                rw [HSH.out]
                                clear HSH hl64
                                generalize hP : 2 ^ l = P at *
                                clear hP
                                by_cases hlt : l < lateF mx
                                · have hcond : (P : Int) < mx := hiff.2 hlt
                                  clear hiff
                                  go_wp2
                                  go_roundw
                                  case rel => exact ⟨l + 1, by omega, by go_num, trivial⟩
                                  case measure => (simp [intOf] <;> omega)
                                · have hcond : ¬ (P : Int) < mx := fun h => hlt (hiff.1 h)
                                  have hle : l = lateF mx := by omega
                                  have h6 := HF6.out
                                  rw [← hle] at h6
                                  have hmu1 : ¬ (mu : Int) < 1 := by omega
                                  have hx1 : ¬ x < 1 := by omega
                                  have hxN : ¬ (NN : Int) < x := by omega
                                  have hxy : (x == y) = false := by simpa using f5
                                  have hw1 : IntKind.i64.wrap ((qq : Int) + 1) = (qq : Int) + 1 := by rw [IntKind.wrap_i64]; omega
                                  have hw2 : IntKind.i64.wrap ((qq : Int) + 1 - (l : Int)) = (qq : Int) + 1 - (l : Int) := by rw [IntKind.wrap_i64]; omega
                                  have hlate : ¬ (mu : Int) < (qq : Int) + 1 - (l : Int) := by omega
                                  clear hiff hle hlt h6 hmxb hll hl3
                                  go_upto_region 56 with fail
                                  clear hcond hmxi
                                  go_cut [266] (fun s266 wx => s266 = .bool false ∧ w11 = wx)
                                  case first => as_aux_lemma =>
                                    clear HF6 HF7
                                    go_wp2_with (first
                                      | (go_at_call 28; refine CM2.out.mono ?_; rintro e w' ⟨rfl, rfl⟩)
                                      | (go_at_call 17; refine (CRS.out ()).mono ?_; rintro e w' ⟨rfl, rfl⟩))
                                    go_meet
                                    case rel => exact ⟨by (first | rfl | (simp; done) | (simp; omega)), rfl⟩
                                  case rest => as_aux_lemma =>
                                    obtain ⟨rfl, rfl⟩ := hcut
                                    clear hlate hw1 hw2 hxy hx1 hmu1
                                    by_cases h1 : mu = 1
                                    · have hb1 : ((mu : Int) == 1) = true := by simp; omega
                                      by_cases h2 : i / 2 = k / 2
                                      · have hb2 : ((i : Int) / 2 == (k : Int) / 2) = true := by simp; omega
                                        have h3 : x + y = (NN : Int) + 1 := Decidable.byContradiction fun h3 => HF7.out ⟨h1, h2, h3⟩
                                        have hw3 : IntKind.i64.wrap (x + y) = x + y := by rw [IntKind.wrap_i64]; omega
                                        have hw4 : IntKind.i64.wrap ((NN : Int) + 1) = (NN : Int) + 1 := by rw [IntKind.wrap_i64]; omega
                                        have HB3 := hide (show (x + y != (NN : Int) + 1) = false by rw [h3]; simp)
                                        clear h1 h2 h3
                                        as_aux_lemma =>
                                          have hb3 := HB3.out
                                          go_wp2
                                          go_roundw
                                          case rel => exact ⟨k + 1, by omega, by go_num, trivial⟩
                                          case measure => (simp [intOf] <;> omega)
                                      · have hb2 : ((i : Int) / 2 == (k : Int) / 2) = false := by simp; omega
                                        clear h1 h2
                                        as_aux_lemma =>
                                          go_wp2
                                          go_roundw
                                          case rel => exact ⟨k + 1, by omega, by go_num, trivial⟩
                                          case measure => (simp [intOf] <;> omega)
                                    · have hb1 : ((mu : Int) == 1) = false := by simp; omega
                                      clear h1
                                      as_aux_lemma =>
                                        go_wp2
                                        go_roundw
                                        case rel => exact ⟨k + 1, by omega, by go_num, trivial⟩
                                        case measure => (simp [intOf] <;> omega)
                          · have hki : ¬ (k : Int) < (NN : Int) := by omega
                            go_wp2
                            go_roundw
                            case rel => exact ⟨i + 1, by omega, by go_num, trivial⟩
                            case measure => (simp [intOf] <;> omega)
                      · have hii2 : ¬ (i : Int) < (NN : Int) := by omega
                        clear hiN hi
                        go_wp2_with fail
                        refine (makeOf_any A n c bs 60 8 w11 (HB.out.ext (HX2.out.trans HX11.out)) (by omega) (by omega) (by omega)).mono ?_
                        rintro e w12 ⟨ts, B2, d2, ht2, rfl, hoB2, hE12⟩
                        have HT2 := hide (show tourOk 8 ts from ht2)
                        have CPT := hide (partTour_any B2 d2 ts w12 HT2.out hoB2.ints)
                        have HX12 := hide (HX11.out.trans hE12)
                        clear ht2 hoB2 hE12
                        go_wp2_with fail
                        refine CPT.out.mono ?_
                        rintro e w13 ⟨B3, d3, rfl, hI3, hE13⟩
                        obtain ⟨w14, hw14⟩ : ∃ w14 : World, w14 = w13.alloc (.cells #[.int .i64 8, .slice B3 8 d3] 26) := ⟨_, rfl⟩
                        have hE14 : Ext w13 w14 := by rw [hw14]; exact Ext.one _ _
                        obtain ⟨K2, hK2⟩ : ∃ K2, K2 = w13.heap.size := ⟨_, rfl⟩
                        have D0 := hide (show w14.cell? ⟨K2, 0, none⟩ = some (.int .i64 8) by rw [hw14, hK2]; simp)
                        have D1 := hide (show w14.cell? ⟨K2, 1, none⟩ = some (.slice B3 8 d3) by rw [hw14, hK2]; simp)
                        have HI3 := hide (hI3.ext hE14)
                        have HX14 := hide (HX12.out.trans (hE13.trans hE14))
                        have HW14 := hide hw14
                        have HK2 := hide hK2
                        clear hI3 hE13 hE14 hw14 hK2
                        go_wp2_with fail
                        rw [← HK2.out, ← HW14.out]
                        refine (makeNum_any A n c bs 80 w14 (HB.out.ext (HX2.out.trans HX14.out)) (by omega)).mono ?_
                        rintro e w15 ⟨Z2, rfl, hZ2, hE15⟩
                        obtain ⟨z2, hz2⟩ : ∃ z2, Z2 % NN = z2 := ⟨_, rfl⟩
                        have hz2b : z2 < NN := by rw [← hz2]; exact Nat.mod_lt _ (by omega)
                        have hz2i : (Z2 : Int).tmod (NN : Int) = (z2 : Int) := by rw [Int.tmod_eq_emod_of_nonneg (by omega), ← hz2]; simp
                        obtain ⟨m2, hm2⟩ : ∃ m2, 1 + z2 = m2 := ⟨_, rfl⟩
                        have hm2i : 1 + (z2 : Int) = (m2 : Int) := by omega
                        have hwm2 : IntKind.i64.wrap (m2 : Int) = (m2 : Int) := by rw [IntKind.wrap_i64]; omega
                        have hNN0 : ¬ NN = 0 := by omega
                        have HX15 := hide (HX14.out.trans hE15)
                        have HE15 := hide hE15
                        clear hE15 hz2
                        go_wp2_with fail
                        refine (makeOrder_any A n c bs 70 m2 w15 (HB.out.ext (HX2.out.trans HX15.out)) (by omega) (by omega) (by omega)).mono ?_
                        rintro e w16 ⟨o, B4, d4, hpo, rfl, hoO, hE16⟩
                        have HO16 := hide hoO.ints
                        have HX16 := hide (HX15.out.trans hE16)
                        have HE16 := hide (HE15.out.trans hE16)
                        have HSB := hide (show SeedB qq m2 o (seedBracket o (NN : Int)) by rw [← HNN.out]; exact seed_brk hqq4 (by omega) (by rw [HNN.out]; omega) hpo)
                        have hol : o.length = m2 := hpo.1
                        have HOL := hide hol
                        have CSB := hide (iSeedBracket_any B4 m2 d4 o (NN : Int) w16 HO16.out)
                        clear hoO hE16 hz2i hm2i hwm2 hpo hol
                        go_wp2_with fail
                        refine CSB.out.mono ?_
                        rintro e w17 ⟨B5, d5, rfl, hoS, hE17⟩
                        have hsl : (seedBracket o (NN : Int)).length = NN := HSB.out.len.trans HNN.out
                        rw [hsl] at hoS ⊢
                        obtain ⟨sb, hsb⟩ : ∃ sb, seedBracket o (NN : Int) = sb := ⟨_, rfl⟩
                        rw [hsb] at hoS HSB
                        have HS17 := hide hoS.ints
                        have HO17 := hide (HO16.out.ext hE17)
                        have HX17 := hide (HX16.out.trans hE17)
                        have HE417 := hide (HE16.out.trans hE17)
                        clear hoS hE17 hsl hsb CSB
                        have hm2N : m2 ≤ NN := by omega
                        have hm21 : 1 ≤ m2 := by omega
                        have hm20 : (0 : Int) < (m2 : Int) := by omega
                        have hq0 : (0 : Int) < (NN : Int) := by omega
                        have hm2p : 0 < m2 := by omega
                        have hNNp : 0 < NN := by omega
                        obtain ⟨b5, o5, x5, e5, _, hx5, _, hc5⟩ := HS17.out.get (k := 0) (by omega)
                        obtain ⟨b4, o4, x4, e4, _, hx4, _, hc4⟩ := HO17.out.get (k := 0) (by omega)
                        have h54 : x5 = x4 := by
                          have := HSB.out.head
                          rwa [List.getD_eq_getElem?_getD, List.getD_eq_getElem?_getD, hx5, hx4] at this
                        subst h54
                        subst e5
                        subst e4
                        rw [Nat.add_zero] at hc5 hc4
                        have KS := hide (show ∀ w', Ext w17 w' → (Ext w17 w' ∧ w'.cell? ⟨K, 0, none⟩ = some (.int .i64 (m : Int)) ∧ w'.cell? ⟨K, 1, none⟩ = some (.slice B m d) ∧ w'.cell? ⟨K2, 0, none⟩ = some (.int .i64 8) ∧ w'.cell? ⟨K2, 1, none⟩ = some (.slice B3 8 d3) ∧ w'.cell? ⟨b5, o5, none⟩ = some (.int .i64 x5) ∧ w'.cell? ⟨b4, o4, none⟩ = some (.int .i64 x5)) from fun w' hh => ⟨hh, hh.get (HX17.out.get C0.out), hh.get (HX17.out.get C1.out), hh.get (HE417.out.get D0.out), hh.get (HE417.out.get D1.out), hh.get hc5, hh.get hc4⟩)
                        have CBK := hide (fun (w' : World) (hE : Ext w17 w') => show Calls Tryd.prog 12 #[.agg #[.int .i64 8, .slice B3 8 d3], .slice (some ⟨b5, o5, none⟩) NN d5] w' fun e w'' => e = .returned (.bool true) ∧ Ext w' w'' from by
                          have := iBracketOk_any 8 B3 8 d3 ts (some ⟨b5, o5, none⟩) NN d5 sb w' (HI3.out.ext (HE417.out.trans hE)) (HS17.out.ext hE)
                          rwa [decide_eq_true (show bracketOk 8 ts sb from ⟨HT2.out, HSB.out.brk8⟩)] at this)
                        have CHS := hide (fun (w' : World) (hE : Ext w17 w') => show Calls Tryd.prog 22 #[.slice (some ⟨b5, o5, none⟩) NN d5, .int .i64 (-1)] w' fun e w'' => e = .returned (.bool (decide (m2 < NN))) ∧ w' = w'' from by
                          have := lhas_any (some ⟨b5, o5, none⟩) NN d5 sb (-1) w' (HS17.out.ext hE)
                          rwa [show decide ((-1 : Int) ∈ sb) = decide (m2 < NN) by rw [decide_eq_decide, HSB.out.neg, HNN.out]] at this)
                        have CMO := hide (fun (w' : World) (hE : Ext w17 w') => iMonotone_any (m : Int) B m d xs w' (HI.out.ext (HX17.out.trans hE)))
                        have CTR := hide (fun (w' : World) (hE : Ext w17 w') => iTransitive_any m B d xs w' HT.out (HI.out.ext (HX17.out.trans hE)))
                        have CBO := hide (fun (w' : World) (hE : Ext w17 w') => iBest_any m B d xs w' HT.out (HI.out.ext (HX17.out.trans hE)))
                        have HMI := hide (mono_iff HT.out)
                        have hmm : m ≤ 8 := by have := tourOk_size HT.out; omega
                        clear hx5 hx4 hc5 hc4
                        obtain ⟨hv, hhv⟩ : ∃ hv, decide (m2 < NN) = hv := ⟨_, rfl⟩
                        have hlt2 : decide ((m2 : Int) < (NN : Int)) = hv := by rw [← hhv, decide_eq_decide]; omega
                        rw [hhv] at CHS
                        by_cases hmo : monoT m xs
                        · have HMD := hide (show decide (isMono (m : Int) xs) = true from decide_eq_true (HMI.out.2 hmo))
                          have HTD := hide (@decide_eq_true _ (Classical.propDecidable _) (show ∃ o, noRev m xs o from ⟨_, mono_noRev hmo⟩))
                          rw [HMD.out] at CMO
                          rw [HTD.out] at CTR
                          by_cases hm1 : m = 1
                          · have hb1 : ((m : Int) == 1) = true := by simp; omega
                            clear hm1 hmo
                            as_aux_lemma =>
                              obtain ⟨_, e0, e1, e2, e3, e4, e5⟩ := KS.out _ (Ext.refl _)
                              have d0 := after_cell e0
                              have d1 := after_cell e1
                              have d2 := after_cell e2
                              have d3 := after_cell e3
                              have d4 := after_cell e4
                              have d5 := after_cell e5
                              have GBK := hide (fun (e : After w17) => CBK.out e.val e.property)
                              have GHS := hide (fun (e : After w17) => CHS.out e.val e.property)
                              have GMO := hide (fun (e : After w17) => CMO.out e.val e.property)
                              have GTR := hide (fun (e : After w17) => CTR.out e.val e.property)
                              clear e0 e1 e2 e3 e4 e5 CBK CHS CMO CTR CBO
                              go_wp2
                              refine wp_region_ext (by as_aux_lemma => kernel_rfl) (by as_aux_lemma => kernel_rfl) ?_
                              repeat (go_big_quiet_step ((first | (go_at_call 12; with_reducible exact after_call (GBK.out _)) | (go_at_call 22; with_reducible exact after_pure (GHS.out _)) | (go_at_call 32; with_reducible exact after_call (GMO.out _)) | (go_at_call 33; with_reducible exact after_call (GTR.out _)))))
                              refine wpQuiet_nil ?_
                              rintro w18 ⟨⟨w18, hE18⟩, rfl⟩
                              have HXF := hide (HX2.out.trans (HX17.out.trans hE18))
                              clear hE18 d0 d1 d2 d3 d4 d5
                              go_wp2
                              go_ret
                              exact ⟨by (first | rfl | (simp; done)), HXF.out⟩
                          · have hb1 : ((m : Int) == 1) = false := by simp; omega
                            have HMO := hide hmo
                            clear hm1 hmo
                            as_aux_lemma =>
                              go_wp2
                              go_region_held3 (fun w' => Ext w17 w' ∧ w'.cell? ⟨K, 0, none⟩ = some (.int .i64 (m : Int)) ∧ w'.cell? ⟨K, 1, none⟩ = some (.slice B m d) ∧ w'.cell? ⟨K2, 0, none⟩ = some (.int .i64 8) ∧ w'.cell? ⟨K2, 1, none⟩ = some (.slice B3 8 d3) ∧ w'.cell? ⟨b5, o5, none⟩ = some (.int .i64 x5) ∧ w'.cell? ⟨b4, o4, none⟩ = some (.int .i64 x5))
                                (first | exact KS.out _ (Ext.refl _) | exact KS.out _ (Ext.refl _).drew | exact KS.out _ X5 | exact KS.out _ X4 | exact KS.out _ X3 | exact KS.out _ X2 | exact KS.out _ X1)
                                (first
                                  | (go_at_call 12; refine (CBK.out _ (Ext.refl _).drew).mono ?_; rintro e w18 ⟨rfl, hE18⟩; have X1 := (Ext.refl w17).drew.trans hE18)
                                  | (go_at_call 22; refine (CHS.out _ X1).mono ?_; rintro e w' ⟨rfl, rfl⟩)
                                  | (go_at_call 32; refine (CMO.out _ X1).mono ?_; rintro e w19 ⟨rfl, hE19⟩; have X2 := X1.trans hE19)
                                  | (go_at_call 33; refine (CTR.out _ X2).mono ?_; rintro e w20 ⟨rfl, hE20⟩; have X3 := X2.trans hE20)
                                  | (go_at_call 35; refine (CBO.out _ X3).mono ?_; rintro e w21 ⟨out, ⟨B6, d6, rfl, hO6, hE21⟩, hq1, hq2⟩; have X4 := X3.trans hE21)
                                  | (go_at_call 36; refine (stairs_any m _ (by omega)).mono ?_; rintro e w22 ⟨B7, d7, rfl, hO7, hE22⟩; have X5 := X4.trans hE22)
                                  | (go_at_call 34; refine (lsame_any _ _ _ out _ _ _ (upto m) _ (hO6.ints.ext hE22) hO7.ints).mono ?_; rw [decide_eq_true (hq1 HMO.out)]; rintro e w' ⟨rfl, rfl⟩))
                              have HXF := hide (HX2.out.trans (HX17.out.trans X5))
                              clear X1 X2 X3 X4 X5
                              go_wp2
                              go_ret
                              exact ⟨by (first | rfl | (simp; done)), HXF.out⟩
                        · have HMD := hide (show decide (isMono (m : Int) xs) = false from decide_eq_false fun h => hmo (HMI.out.1 h))
                          rw [HMD.out] at CMO
                          by_cases hno : ∃ o, noRev m xs o
                          · have HTD := hide (@decide_eq_true _ (Classical.propDecidable _) hno)
                            rw [HTD.out] at CTR
                            have hb1 : ((m : Int) == 1) = false := by
                              simp
                              intro h1
                              exact hmo fun a b h2 h3 => by omega
                            have HMO := hide hmo
                            have HNO := hide hno
                            clear hmo hno
                            as_aux_lemma =>
                              go_wp2
                              go_region_held3 (fun w' => Ext w17 w' ∧ w'.cell? ⟨K, 0, none⟩ = some (.int .i64 (m : Int)) ∧ w'.cell? ⟨K, 1, none⟩ = some (.slice B m d) ∧ w'.cell? ⟨K2, 0, none⟩ = some (.int .i64 8) ∧ w'.cell? ⟨K2, 1, none⟩ = some (.slice B3 8 d3) ∧ w'.cell? ⟨b5, o5, none⟩ = some (.int .i64 x5) ∧ w'.cell? ⟨b4, o4, none⟩ = some (.int .i64 x5))
                                (first | exact KS.out _ (Ext.refl _) | exact KS.out _ (Ext.refl _).drew | exact KS.out _ X5 | exact KS.out _ X4 | exact KS.out _ X3 | exact KS.out _ X2 | exact KS.out _ X1)
                                (first
                                  | (go_at_call 12; refine (CBK.out _ (Ext.refl _).drew).mono ?_; rintro e w18 ⟨rfl, hE18⟩; have X1 := (Ext.refl w17).drew.trans hE18)
                                  | (go_at_call 22; refine (CHS.out _ X1).mono ?_; rintro e w' ⟨rfl, rfl⟩)
                                  | (go_at_call 32; refine (CMO.out _ X1).mono ?_; rintro e w19 ⟨rfl, hE19⟩; have X2 := X1.trans hE19)
                                  | (go_at_call 33; refine (CTR.out _ X2).mono ?_; rintro e w20 ⟨rfl, hE20⟩; have X3 := X2.trans hE20)
                                  | (go_at_call 35; refine (CBO.out _ X3).mono ?_; rintro e w21 ⟨out, ⟨B6, d6, rfl, hO6, hE21⟩, hq1, hq2⟩; have X4 := X3.trans hE21)
                                  | (go_at_call 36; refine (stairs_any m _ (by omega)).mono ?_; rintro e w22 ⟨B7, d7, rfl, hO7, hE22⟩; have X5 := X4.trans hE22)
                                  | (go_at_call 34; refine (lsame_any _ _ _ out _ _ _ (upto m) _ (hO6.ints.ext hE22) hO7.ints).mono ?_; rw [decide_eq_false (fun h => HMO.out (hq2 h HNO.out))]; rintro e w' ⟨rfl, rfl⟩))
                              have HXF := hide (HX2.out.trans (HX17.out.trans X5))
                              clear X1 X2 X3 X4 X5
                              go_wp2
                              go_ret
                              exact ⟨by (first | rfl | (simp; done)), HXF.out⟩
                          · have HTD := hide (@decide_eq_false _ (Classical.propDecidable _) hno)
                            rw [HTD.out] at CTR
                            clear hmo hno
                            as_aux_lemma =>
                              obtain ⟨_, e0, e1, e2, e3, e4, e5⟩ := KS.out _ (Ext.refl _)
                              have d0 := after_cell e0
                              have d1 := after_cell e1
                              have d2 := after_cell e2
                              have d3 := after_cell e3
                              have d4 := after_cell e4
                              have d5 := after_cell e5
                              have GBK := hide (fun (e : After w17) => CBK.out e.val e.property)
                              have GHS := hide (fun (e : After w17) => CHS.out e.val e.property)
                              have GMO := hide (fun (e : After w17) => CMO.out e.val e.property)
                              have GTR := hide (fun (e : After w17) => CTR.out e.val e.property)
                              clear e0 e1 e2 e3 e4 e5 CBK CHS CMO CTR CBO
                              go_wp2
                              refine wp_region_ext (by as_aux_lemma => kernel_rfl) (by as_aux_lemma => kernel_rfl) ?_
                              repeat (go_big_quiet_step ((first | (go_at_call 12; with_reducible exact after_call (GBK.out _)) | (go_at_call 22; with_reducible exact after_pure (GHS.out _)) | (go_at_call 32; with_reducible exact after_call (GMO.out _)) | (go_at_call 33; with_reducible exact after_call (GTR.out _)))))
                              refine wpQuiet_nil ?_
                              rintro w18 ⟨⟨w18, hE18⟩, rfl⟩
                              have HXF := hide (HX2.out.trans (HX17.out.trans hE18))
                              clear hE18 d0 d1 d2 d3 d4 d5
                              go_wp2
                              go_ret
                              exact ⟨by (first | rfl | (simp; done)), HXF.out⟩

end Go.Proofs.YtbaljgdepicigaaDoor
