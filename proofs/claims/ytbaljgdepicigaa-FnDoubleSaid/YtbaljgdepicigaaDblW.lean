/-
  The walk of the law on double elimination: everybody but the last one loses twice, and a sovereign loses never.
-/
import Derived.Deep.RegionHeld3
import Derived.Laws.ShiftsVar
import Derived.Test.YtbaljgdepicigaaBase
import Derived.Test.YtbaljgdepicigaaMathA
import Derived.Test.YtbaljgdepicigaaMathD
import Derived.Test.YtbaljgdepicigaaLib
import Derived.Test.YtbaljgdepicigaaAid
import Derived.Test.YtbaljgdepicigaaStep
import Derived.Test.YtbaljgdepicigaaGrid
import Derived.Test.YtbaljgdepicigaaLibF
import Derived.Test.YtbaljgdepicigaaMathB
import Derived.Test.YtbaljgdepicigaaMathU
import Derived.Test.YtbaljgdepicigaaMathW
import Derived.Test.YtbaljgdepicigaaMathZ
import Derived.Test.YtbaljgdepicigaaMathY
import Derived.Test.YtbaljgdepicigaaPop
import Derived.Test.YtbaljgdepicigaaMathG
import Derived.Test.YtbaljgdepicigaaMathQ
import Derived.Test.YtbaljgdepicigaaMathX
import Derived.Test.YtbaljgdepicigaaMathF
import Derived.Test.YtbaljgdepicigaaMathL
import Derived.Test.YtbaljgdepicigaaMathN
import Derived.Test.YtbaljgdepicigaaMathI
import Derived.Test.YtbaljgdepicigaaMathS
import Derived.Test.YtbaljgdepicigaaMathP
import Derived.Test.YtbaljgdepicigaaDblA
import Derived.Test.YtbaljgdepicigaaSeed
import Derived.Test.YtbaljgdepicigaaTour
import Derived.Test.YtbaljgdepicigaaTourB
import Derived.Test.YtbaljgdepicigaaDblB
import Derived.Test.YtbaljgdepicigaaDblD
import Derived.Test.YtbaljgdepicigaaDblC
import Derived.Test.YtbaljgdepicigaaDblE
import Derived.Test.YtbaljgdepicigaaDblF
import Derived.Test.YtbaljgdepicigaaDblG
import Derived.Test.YtbaljgdepicigaaDblH
import Derived.Test.YtbaljgdepicigaaDblI
import Derived.Test.YtbaljgdepicigaaDblJ
import Derived.Test.YtbaljgdepicigaaDblK
import Derived.Test.YtbaljgdepicigaaWin
import Derived.Test.YtbaljgdepicigaaWinB
import Derived.Test.YtbaljgdepicigaaWinC
import Derived.Test.YtbaljgdepicigaaWinE
import Derived.Test.YtbaljgdepicigaaSovA
import Derived.Test.YtbaljgdepicigaaDblP
import Derived.Test.YtbaljgdepicigaaCurA
import Derived.Test.YtbaljgdepicigaaDrwA
import Derived.Test.YtbaljgdepicigaaDrwB
import Derived.Test.YtbaljgdepicigaaDrwC
import Derived.Test.YtbaljgdepicigaaDrwD
import Derived.Test.YtbaljgdepicigaaDrwE
namespace Go.Proofs.Ytbaljgdepicigaa
open Go.RowKit
set_option linter.unusedVariables false
set_option maxRecDepth 100000

-- impl.DoesBeat
theorem iDoes_any (m : Nat) (A : Option Addr) (c : Nat) (xs : List Int) (a b : Nat) (w : World) (ht : tourOk (m : Int) xs) (h : Ints w A m c xs) (ha : a < m) (hb : b < m) :
    Calls Try.prog 25 #[.agg #[.int .i64 (m : Int), .slice A m c], .int .i64 (a : Int), .int .i64 (b : Int)] w fun e w' => e = .returned (.bool (decide (bts xs a b))) ∧ Ext w w' := by
  have hsz := tourOk_size ht
  have hl := h.len
  have HI := hide h
  have HT := hide ht
  have HR := hide (tourOk_row ht)
  have HA := hide (show decide (0 ≤ (a : Int) ∧ (a : Int) ≤ (m : Int) - 1) = true from decide_eq_true (by omega))
  have HB := hide (show decide (0 ≤ (b : Int) ∧ (b : Int) ≤ (m : Int) - 1) = true from decide_eq_true (by omega))
  have hm8 : m ≤ 8 := by omega
  have hb64 : b < 64 := by omega
  clear h ht hl hsz
  obtain ⟨W, hW⟩ : ∃ W : World, W = w.alloc (.cells #[.int .i64 (m : Int), .slice A m c] 33) := ⟨_, rfl⟩
  have HE := hide (show Ext w W by rw [hW]; exact Ext.one _ _)
  have B0 := hide (show W.cell? ⟨w.heap.size, 0, none⟩ = some (.int .i64 (m : Int)) by rw [hW]; simp)
  have B1 := hide (show W.cell? ⟨w.heap.size, 1, none⟩ = some (.slice A m c) by rw [hW]; simp)
  have HW := hide hW
  clear hW
  go_enter Try.func25, Try.ntmps25
  go_wp2_with fail
  rw [← HW.out]
  refine (iTourOk_any _ _ _ _ xs _ (HI.out.ext HE.out)).mono ?_
  rw [decide_eq_true HT.out]
  rintro e w1 ⟨rfl, hE1⟩
  have d0 := hE1.get B0.out
  have d1 := hE1.get B1.out
  have HE1 := hide (HE.out.trans hE1)
  clear hE1
  go_wp2_with fail
  refine (has_any _ _ _ _ _ _ ⟨by omega, by omega⟩).mono ?_
  rw [HA.out]
  rintro e w2 ⟨rfl, hE2⟩
  have e0 := hE2.get d0
  have e1 := hE2.get d1
  have HE2 := hide (HE1.out.trans hE2)
  clear hE2 d0 d1
  go_wp2_with fail
  refine (has_any _ _ _ _ _ _ ⟨by omega, by omega⟩).mono ?_
  rw [HB.out]
  rintro e w3 ⟨rfl, hE3⟩
  have d0 := hE3.get e0
  have d1 := hE3.get e1
  have HE3 := hide (HE2.out.trans hE3)
  clear hE3 e0 e1
  go_wp2_with fail
  refine (iBeats_any _ _ _ _ xs _ _ _ (HI.out.ext HE3.out) ha hb64 (fun x hx => (HR.out x hx).1)).mono ?_
  rintro e w4 ⟨rfl, hE4⟩
  go_wp2
  go_ret
  exact ⟨rfl, HE3.out.trans hE4⟩
-- words of the walk
def lastS (S : List (List Int)) : Nat → Int
  | 0 => 0
  | j + 1 => (S.getD j []).getD 0 0
theorem play_bound (G : List (List Int)) (l : List Int) : playSum G l ≤ l.length * G.length := by
  induction l with
  | nil => simp [playSum]
  | cons x l ih =>
    have h1 : playsOf G x ≤ G.length := List.countP_le_length
    have e : playSum G (x :: l) = playsOf G x + playSum G l := by simp [playSum]
    rw [e, List.length_cons, Nat.succ_mul]
    omega
-- laws.FnDouble
set_option maxHeartbeats 8000000 in
theorem law_Double (A : Option Addr) (n c : Nat) (bs : List Int) (w : World) (h : Bts w A n c bs) :
    Calls Try.prog 10 #[.slice A n c] w fun e w' => e = .returned (.bool true) ∧ Ext w w' := by
  have HB := hide h
  have hle := h.rd.le
  have hmx := h.rd.max
  clear h
  by_cases hn : (1048576 : Int) < (n : Int)
  · go_enter Try.func10, Try.ntmps10
    go_wp2
    go_ret
    exact ⟨rfl, Ext.refl _⟩
  · go_enter Try.func10, Try.ntmps10
    go_wp2_with fail
    refine (makeTour_any A n c bs 0 7 w HB.out (by omega) (by omega) (by omega)).mono ?_
    rintro e w1 ⟨m, xs, B, d, hm, ht, rfl, hoB, hE1⟩
    obtain ⟨w2, hw2⟩ : ∃ w2 : World, w2 = w1.alloc (.cells #[.int .i64 (m : Int), .slice B m d] 33) := ⟨_, rfl⟩
    have hE2 : Ext w1 w2 := by rw [hw2]; exact Ext.one _ _
    have C0 := hide (show w2.cell? ⟨w1.heap.size, 0, none⟩ = some (.int .i64 (m : Int)) by rw [hw2]; simp)
    have C1 := hide (show w2.cell? ⟨w1.heap.size, 1, none⟩ = some (.slice B m d) by rw [hw2]; simp)
    have HI := hide (hoB.ints.ext hE2)
    have HE := hide (hE1.trans hE2)
    have HT := hide ht
    have hm7 : m ≤ 7 := hm.2
    have hm1 : 1 ≤ m := hm.1
    have HW2 := hide hw2
    obtain ⟨ex, hD⟩ := dbl_ok ht
    have HGOF := hide (games_le (m : Int) xs)
    have HSV := hide (show sovOf (m : Int) xs ≤ 8 ∧ -1 ≤ sovOf (m : Int) xs from by
      unfold sovOf
      rw [if_pos ht, Int.toNat_natCast]
      have := idxF_bound (sovP (m : Int) xs) (upto m)
      rw [upto_len] at this
      omega)
    clear hoB hE1 hE2 ht hm hw2
    obtain ⟨K, hK⟩ : ∃ K, K = w1.heap.size := ⟨_, rfl⟩
    rw [← hK] at C0 C1
    have HK := hide hK
    clear hK
    have C0 := hide C0.out
    have C1 := hide C1.out
    -- what the calls answer
    have CG := hide (fun w' (hE : Ext w2 w') => iDouble_any (m : Int) B m d xs w' (HI.out.ext hE))
    have CW := hide (fun w' (hE : Ext w2 w') => iWinner2_any (m : Int) B m d xs w' (HI.out.ext hE))
    have CP := hide (fun w' (hE : Ext w2 w') => iPlaces2_any (m : Int) B m d xs w' (HI.out.ext hE))
    have CR := hide (fun w' (hE : Ext w2 w') => iReset_any (m : Int) B m d xs w' (HI.out.ext hE))
    have CS := hide (fun w' (hE : Ext w2 w') => iSingle_any (m : Int) B m d xs w' (HI.out.ext hE))
    have CF := hide (fun w' (hE : Ext w2 w') => iFirstOut_any (m : Int) B m d xs w' (HI.out.ext hE))
    have CV := hide (fun w' (hE : Ext w2 w') => iSovereign_any (m : Int) B m d xs w' (HI.out.ext hE))
    have CB := hide (fun (a b : Nat) (ha : a < m) (hb : b < m) w' (hE : Ext w2 w') => iDoes_any m B d xs a b w' HT.out (HI.out.ext hE) ha hb)
    have CDEF := hide (fun (a : Nat) (ha : a < m) w' (hE : Ext w2 w') => show Calls Try.prog 68 #[.agg #[.int .i64 (m : Int), .slice B m d], .int .i64 (a : Int)] w' fun e w'' => e = .returned (.int .i64 (lossOf (gamesOf (m : Int) xs) (a : Int) : Int)) ∧ Ext w' w'' from by
      have := iDefeats_any (m : Int) B m d xs (a : Int) w' (HI.out.ext hE)
      rwa [show defD (m : Int) xs (a : Int) = (lossOf (gamesOf (m : Int) xs) (a : Int) : Int) from if_pos ⟨HT.out, by omega, by omega⟩] at this)
    have CGAM := hide (fun (a : Nat) (ha : a < m) w' (hE : Ext w2 w') => show Calls Try.prog 69 #[.agg #[.int .i64 (m : Int), .slice B m d], .int .i64 (a : Int)] w' fun e w'' => e = .returned (.int .i64 (playsOf (gamesOf (m : Int) xs) (a : Int) : Int)) ∧ Ext w' w'' from by
      have := iGames_any (m : Int) B m d xs (a : Int) w' (HI.out.ext hE)
      rwa [show gamD (m : Int) xs (a : Int) = (playsOf (gamesOf (m : Int) xs) (a : Int) : Int) from if_pos ⟨HT.out, by omega, by omega⟩] at this)
    have HFO := hide (show outD (m : Int) xs = if m = 1 then -1 else (placesOf2 (m : Int) xs).getD (m - 1) 0 from by
      unfold outD
      have hl := tourOk_size HT.out
      rw [show xs.length = m by omega]
      by_cases e : m = 1
      · subst e; rw [if_neg (fun hh => hh.2 rfl), if_pos rfl]
      · rw [if_pos ⟨HT.out, by omega⟩, if_neg e])
    have HRS := hide (show decide (resetD (m : Int) xs) = decide (ex = 1) from by
      rw [decide_eq_decide]
      unfold resetD
      rw [hD.lwin]
      have := hD.exle
      exact ⟨fun hh => by omega, fun hh => ⟨HT.out, by omega⟩⟩)
    have HORD := hide (fun o (hp : isPerm m o) => order_len HT.out hp)
    generalize hG : gamesOf (m : Int) xs = G at *
    generalize hP : placesOf2 (m : Int) xs = P at *
    generalize hS : singleOf (m : Int) xs = S at *
    generalize hwi : winD (m : Int) xs = wi at *
    obtain ⟨sv, hsv⟩ : ∃ sv, sovOf (m : Int) xs = sv := ⟨_, rfl⟩
    have HSVE := hide hsv
    rw [hsv] at CV
    generalize houtv : outD (m : Int) xs = ov at *
    have HD := hide hD
    rw [HRS.out] at CR
    clear hG hP hS hwi hsv houtv hD
    go_wp2_with fail
    rw [← HK.out, ← HW2.out]
    refine (CG.out w2 (Ext.refl _)).mono ?_
    rintro e w3 ⟨GA, gc, rfl, hoG, hE3⟩
    have HGr := hide hoG.grid
    have HX3 := hide hE3
    have k0 := hE3.get C0.out
    have k1 := hE3.get C1.out
    clear hoG hE3
    go_wp2_with fail
    refine (CW.out w3 HX3.out).mono ?_
    rintro e w4 ⟨rfl, hE4⟩
    have HX4 := hide (HX3.out.trans hE4)
    have HGr4 := hide (HGr.out.ext hE4)
    clear hE4 k0 k1 HGr
    have k0 := HX4.out.get C0.out
    have k1 := HX4.out.get C1.out
    go_wp2_with fail
    refine (CP.out w4 HX4.out).mono ?_
    rintro e w5 ⟨PA, pcap, rfl, hoP, hE5⟩
    have HX5 := hide (HX4.out.trans hE5)
    have HGr5 := hide (HGr4.out.ext hE5)
    have HPI5 := hide hoP.ints
    clear hoP hE5 k0 k1 HGr4
    have k0 := HX5.out.get C0.out
    have k1 := HX5.out.get C1.out
    go_wp2_with fail
    refine (CR.out w5 HX5.out).mono ?_
    rintro e w6 ⟨rfl, hE6⟩
    have HX6 := hide (HX5.out.trans hE6)
    have HGr := hide (HGr5.out.ext hE6)
    have HPI := hide (HPI5.out.ext hE6)
    clear hE6 k0 k1 HGr5 HPI5
    have k0 := HX6.out.get C0.out
    have k1 := HX6.out.get C1.out
    rw [HD.out.plen] at HPI ⊢
    replace HPI := hide HPI.out
    obtain ⟨N, hN⟩ : ∃ N, G.length = N := ⟨_, rfl⟩
    rw [hN] at HGr HGOF ⊢
    replace HGr := hide HGr.out
    have hN16 : N ≤ 16 := HGOF.out
    have hNe : N + 2 = 2 * m + ex := by rw [← hN]; exact HD.out.glen
    have hex := HD.out.exle
    have HN := hide hN
    have HPL := hide HD.out.plen
    obtain ⟨bp, op, x0, rfl, hbp, hx0, wx0, hcx0⟩ := HPI.out.get (k := 0) (by omega)
    obtain rfl : wi = x0 := by have := HD.out.pfst; rw [hx0] at this; exact (Option.some.inj this).symm
    rw [Nat.add_zero] at hcx0
    clear hN hx0
    have hm0 : (0 : Int) < (m : Int) := by omega
    have hm0n : 0 < m := by omega
    by_cases hex1 : ex = 1
    · have hdx : decide (ex = 1) = true := decide_eq_true hex1
      have HEX := hide hex1
      have hq1 : ((N : Int) != 2 * (m : Int) - 2 + 1) = false := by simp; omega
      clear hex hNe hex1
      go_wp2
      go_loopw [10, 11, 64] (fun se ga i wr => ∃ j : Nat, j ≤ m ∧ i = .int .i64 (j : Int) ∧ se = .int .i64 (setN (P.take j) : Int) ∧ ga = .int .i64 (playSum G (P.take j) : Int) ∧ Ext w6 wr) (fun _ _ i _ => m - (intOf i).toNat)
      case atStart => exact ⟨0, Nat.zero_le _, rfl, rfl, rfl, Ext.refl _⟩
      case round =>
        obtain ⟨j, hj, rfl, rfl, rfl, hE⟩ := hrel
        have HER := hide hE
        have HXR := hide (HX6.out.trans hE)
        clear hE k0 k1 hcx0
        have k0 := HXR.out.get C0.out
        have k1 := HXR.out.get C1.out
        have hps := play_bound G (P.take j)
        have hjl : (P.take j).length ≤ 7 := by have := HPL.out; rw [List.length_take]; omega
        have hps : playSum G (P.take j) ≤ 112 := Nat.le_trans hps (Nat.le_trans (Nat.mul_le_mul hjl (by have := HN.out; omega : G.length ≤ 16)) (by decide))
        by_cases hlt : j < m
        · have hji : (j : Int) < (m : Int) := by omega
          obtain ⟨b1, o1, x, e9, hb1, hx, wx, hcx⟩ := (HPI.out.ext HER.out).get hlt
          cases e9
          have hxm := List.mem_of_getElem? hx
          have hxb := HD.out.pbnd x hxm
          obtain ⟨a, rfl⟩ : ∃ a : Nat, x = (a : Int) := ⟨x.toNat, by omega⟩
          have ham : a < m := by omega
          have hsn := setN_bits (P.take j) (fun y hy => by have := HD.out.pbnd y (List.mem_of_mem_take hy); omega) (HD.out.pnod.sublist (List.take_sublist _ _))
          have hbit := bit_oneD hsn.1 a
          have hnin : ¬ (a : Int) ∈ P.take j := fun hh => by
            obtain ⟨i, hi, e⟩ := List.getElem_of_mem hh
            rw [List.length_take] at hi
            have h2 : P[i]? = some (a : Int) := by rw [List.getElem?_eq_getElem (by omega), ← e, List.getElem_take]
            have := nodup_idx HD.out.pnod h2 hx
            omega
          rw [hsn.2 a (by omega), decide_eq_false hnin] at hbit
          have HSN := hide (show setN (P.take (j + 1)) = setN (P.take j) + 2 ^ a by rw [take_snoc_of hx, setN_snoc, Int.toNat_natCast])
          have HPS := hide (show playSum G (P.take (j + 1)) = playSum G (P.take j) + playsOf G (a : Int) by rw [take_snoc_of hx, playSum_snoc])
          have HADD := hide (add_shl (m := setN (P.take j)) (b := a) (by omega) hsn.1)
          have hsn8 := hsn.1
          have hpl : playsOf G (a : Int) ≤ 16 := Nat.le_trans List.countP_le_length (by have := HN.out; omega)
          have HX := hide hx
          have CD := CDEF.out a ham
          have CGa := hide (CGAM.out a ham)
          have ha0 : ¬ (a : Int) < 0 := by omega
          have ha1 : ¬ (m : Int) ≤ (a : Int) := by omega
          have ha64 : min a 64 = a := by omega
          have hai0 : (0 : Int) ≤ (a : Int) := by omega
          clear hsn hnin hxm hxb hx
          generalize setN (P.take j) = sN at *
          generalize playSum G (P.take j) = pS at *
          generalize playsOf G (a : Int) = pl at *
          by_cases hj0 : j = 0
          · have hjz : ¬ (0 : Int) < (j : Int) := by omega
            have hje : ((j : Int) == 0) = true := by simpa using hj0
            rw [show lossOf G (a : Int) = 1 from by
              have h1 := HX.out; rw [hj0, HD.out.pfst] at h1
              rw [← Option.some.inj h1, HD.out.lwin]; exact HEX.out] at CD
            replace CD := hide CD
            have HJ0 := hide hj0
            clear hj0
            go_wp2_with fail
            rw [HADD.out]
            refine (CD.out _ HXR.out).mono ?_
            rintro e w7 ⟨rfl, hE7⟩
            have HX7 := hide (HXR.out.trans hE7)
            have HE7 := hide (HER.out.trans hE7)
            clear k0 k1 hE7
            have k0 := HX7.out.get C0.out
            have k1 := HX7.out.get C1.out
            go_wp2_with fail
            refine (CGa.out _ HX7.out).mono ?_
            rintro e w8 ⟨rfl, hE8⟩
            have HE8 := hide (HE7.out.trans hE8)
            clear hE8
            go_wp2
            go_roundw
            case rel => exact ⟨j + 1, by omega, by go_num, by rw [HSN.out]; simp, by rw [HPS.out]; go_num, HE8.out⟩
            case measure => (simp [intOf] <;> omega)
          · have hjz : (0 : Int) < (j : Int) := by omega
            have hje : ((j : Int) == 0) = false := by simpa using hj0
            rw [show lossOf G (a : Int) = 2 from HD.out.loth j _ (by omega) HX.out] at CD
            replace CD := hide CD
            clear hj0
            go_wp2_with fail
            rw [HADD.out]
            refine (CD.out _ HXR.out).mono ?_
            rintro e w7 ⟨rfl, hE7⟩
            have HX7 := hide (HXR.out.trans hE7)
            have HE7 := hide (HER.out.trans hE7)
            clear k0 k1 hE7
            have k0 := HX7.out.get C0.out
            have k1 := HX7.out.get C1.out
            go_wp2_with fail
            refine (CGa.out _ HX7.out).mono ?_
            rintro e w8 ⟨rfl, hE8⟩
            have HE8 := hide (HE7.out.trans hE8)
            clear hE8
            go_wp2
            go_roundw
            case rel => exact ⟨j + 1, by omega, by go_num, by rw [HSN.out]; simp, by rw [HPS.out]; go_num, HE8.out⟩
            case measure => (simp [intOf] <;> omega)
        · have hjm : j = m := by omega
          have hpsum : playSum G (P.take j) = 2 * N := by rw [List.take_of_length_le (by have := HPL.out; omega), HD.out.psum, HN.out]
          rw [hpsum]
          generalize setN (P.take j) = sN at *
          clear hjm hjl hps hpsum
          obtain ⟨w7, rfl⟩ : ∃ w7 : World, w7 = wr := ⟨_, rfl⟩
          have HG7 := hide (HGr.out.ext HER.out)
          have HP7 := hide (HPI.out.ext HER.out)
          have HX7 := hide HXR.out
          rw [show ((2 * N : Nat) : Int) = 2 * (N : Int) by omega]
          clear HER HXR HGr HPI
          go_wp2
          go_loopw [113] (fun i wr => ∃ j : Nat, j ≤ N ∧ i = .int .i64 (j : Int) ∧ Ext w7 wr) (fun i _ => N - (intOf i).toNat)
          case atStart => exact ⟨0, Nat.zero_le _, rfl, Ext.refl _⟩
          case round =>
            obtain ⟨j, hj, rfl, hE⟩ := hrel
            have HER := hide hE
            have HXR := hide (HX7.out.trans hE)
            clear hE k0 k1
            have k0 := HXR.out.get C0.out
            have k1 := HXR.out.get C1.out
            by_cases hlt : j < N
            · have hji : (j : Int) < (N : Int) := by omega
              obtain ⟨rb, ro, RA, rd, r, rfl, hrbl, hr, hcr, hri⟩ := (HG7.out.ext HER.out).get hlt
              obtain ⟨u, v, rfl, hu, hv, hbt⟩ := HD.out.gbts r (List.mem_of_getElem? hr)
              obtain ⟨vb, vo, y0, rfl, hvb, hy0, wy0, hc0⟩ := hri.get (k := 0) (by simp)
              obtain ⟨vb', vo', y1, e1, _, hy1, _, hc1⟩ := hri.get (k := 1) (by simp)
              cases e1
              obtain rfl : (u : Int) = y0 := by simpa using hy0
              obtain rfl : (v : Int) = y1 := by simpa using hy1
              rw [Nat.add_zero] at hc0
              have CBU := fun (e : After wr) => CB.out u v hu hv e.val (HXR.out.trans e.property)
              rw [decide_eq_true hbt] at CBU
              have CBU := hide CBU
              have d0 := after_cell k0
              have d1 := after_cell k1
              have du := after_cell hc0
              have dv := after_cell hc1
              clear hri hr hbt hy0 hy1
              go_wp2
              refine wp_region_ext (by kernel_rfl) (by kernel_rfl) ?_
              repeat (go_big_quiet_step ((go_at_call 25; exact after_call (CBU.out _))))
              refine wpQuiet_nil ?_
              rintro w8 ⟨⟨w8, hE8⟩, rfl⟩
              have HE8 := hide (HER.out.trans hE8)
              clear hE8 d0 d1 du dv hc0 hc1 hcr
              go_wp2
              go_roundw
              case rel => exact ⟨j + 1, by omega, by go_num, HE8.out⟩
              case measure => (simp [intOf] <;> omega)
            · obtain ⟨w8, rfl⟩ : ∃ w8 : World, w8 = wr := ⟨_, rfl⟩
              have HP8 := hide (HP7.out.ext HER.out)
              have HX8 := hide HXR.out
              clear HER HXR HG7 HP7
              go_wp2_with fail
              refine (CS.out w8 HX8.out).mono ?_
              rintro e w9 ⟨SA, sc, rfl, hoS, hE9⟩
              have HS9 := hide hoS.grid
              have HP9 := hide (HP8.out.ext hE9)
              have HX9 := hide (HX8.out.trans hE9)
              obtain ⟨q, hq⟩ : ∃ q : Nat, (m : Int) - 1 = (q : Int) := ⟨m - 1, by omega⟩
              have HSL := hide (show S.length = q by have := HD.out.slen; omega)
              rw [HSL.out] at HS9 ⊢
              have HS9 := hide HS9.out
              clear hoS hE9 k0 k1 HP8
              have k0 := HX9.out.get C0.out
              have k1 := HX9.out.get C1.out
              go_wp2
              go_loopw [18, 136] (fun la i wr => ∃ j : Nat, j ≤ q ∧ i = .int .i64 (j : Int) ∧ la = .int .i64 (lastS S j) ∧ Ext w9 wr) (fun _ i _ => q - (intOf i).toNat)
              case atStart => exact ⟨0, Nat.zero_le _, rfl, rfl, Ext.refl _⟩
              case round =>
                obtain ⟨j, hj, rfl, rfl, hE⟩ := hrel
                have HER := hide hE
                have HXR := hide (HX9.out.trans hE)
                clear hE k0 k1
                have k0 := HXR.out.get C0.out
                have k1 := HXR.out.get C1.out
                by_cases hlt : j < q
                · have hji : (j : Int) < (q : Int) := by omega
                  obtain ⟨rb, ro, RA, rd, r, rfl, hrbl, hr, hcr, hri⟩ := (HS9.out.ext HER.out).get hlt
                  obtain ⟨u, v, rfl, hu, hv, hbt⟩ := HD.out.sbts r (List.mem_of_getElem? hr)
                  obtain ⟨vb, vo, y0, rfl, hvb, hy0, wy0, hc0⟩ := hri.get (k := 0) (by simp)
                  obtain ⟨vb', vo', y1, e1, _, hy1, _, hc1⟩ := hri.get (k := 1) (by simp)
                  cases e1
                  obtain rfl : (u : Int) = y0 := by simpa using hy0
                  obtain rfl : (v : Int) = y1 := by simpa using hy1
                  rw [Nat.add_zero] at hc0
                  have CBU := fun (e : After wr) => CB.out u v hu hv e.val (HXR.out.trans e.property)
                  rw [decide_eq_true hbt] at CBU
                  have CBU := hide CBU
                  have HLS := hide (show lastS S (j + 1) = (u : Int) by simp [lastS, List.getD, hr])
                  have HCU := hide hc0
                  have d0 := after_cell k0
                  have d1 := after_cell k1
                  have du := after_cell hc0
                  have dv := after_cell hc1
                  clear hri hr hbt hy0 hy1
                  go_wp2
                  refine wp_region_ext (by kernel_rfl) (by kernel_rfl) ?_
                  repeat (go_big_quiet_step ((go_at_call 25; exact after_call (CBU.out _))))
                  refine wpQuiet_nil ?_
                  rintro w10 ⟨⟨w10, hE10⟩, rfl⟩
                  have hcu := hE10.get HCU.out
                  have HE10 := hide (HER.out.trans hE10)
                  clear hE10 d0 d1 du dv hc0 hc1 hcr
                  go_wp2
                  go_roundw
                  case rel => exact ⟨j + 1, by omega, by go_num, by rw [HLS.out], HE10.out⟩
                  case measure => (simp [intOf] <;> omega)
                · obtain ⟨w10, rfl⟩ : ∃ w10 : World, w10 = wr := ⟨_, rfl⟩
                  have hjq : j = q := by omega
                  subst hjq
                  have HP10 := hide (HP9.out.ext HER.out)
                  have HX10 := hide HXR.out
                  clear HER HXR HS9 HP9
                  have CO := hide (makeOrder_any A n c bs 20 m w10 (HB.out.ext (HE.out.trans HX10.out)) (by omega) hm1 (by omega))
                  go_wp2_with fail
                  refine CO.out.mono ?_
                  rintro e w11 ⟨o, OB, od, hpo, rfl, hoo, hE11⟩
                  have HX11 := hide (HX10.out.trans hE11)
                  have HP11 := hide (HP10.out.ext hE11)
                  have HO := hide (HORD.out o hpo)
                  have CDO := iDoubleOrder_any (m : Int) B m d xs OB m od o w11 (HI.out.ext HX11.out) hoo.ints (by omega)
                  rw [decide_eq_true HO.out.1] at CDO
                  have CDO := hide CDO
                  clear hpo hoo hE11 k0 k1 HP10
                  have k0 := HX11.out.get C0.out
                  have k1 := HX11.out.get C1.out
                  go_wp2_with fail
                  refine CDO.out.mono ?_
                  rintro e w12 ⟨HA, hcap, rfl, hoh, hE12⟩
                  have HX12 := hide (HX11.out.trans hE12)
                  have HP12 := hide (HP11.out.ext hE12)
                  obtain ⟨L, hL⟩ : ∃ L, (orderG (m : Int) xs o).length = L := ⟨_, rfl⟩
                  rw [hL] at HO ⊢
                  have HO := hide HO.out.2
                  clear hoh hE12 hL k0 k1 HP11
                  have k0 := HX12.out.get C0.out
                  have k1 := HX12.out.get C1.out
                  by_cases hmo : m = 1
                  · have hme : ((m : Int) == 1) = true := by rw [beq_iff_eq]; omega
                    have hw0 : (wi == 0) = true := by
                      have h1 := HD.out.pbnd wi (List.mem_of_getElem? HD.out.pfst)
                      simp; omega
                    have hov : ov = -1 := by rw [HFO.out, if_pos hmo]
                    have hL0 : ((L : Int) == 0) = true := by have := HO.out.2 hmo; simp; omega
                    have hq0 : ((j : Int) == 0) = true := by simp; omega
                    have HOV := hide hov
                    have HOV2 := hide (show (ov == -1) = true by rw [hov]; rfl)
                    clear hov hmo
                    go_wp2_with fail
                    refine (CF.out w12 HX12.out).mono ?_
                    rintro e w13 ⟨rfl, hE13⟩
                    have hov2 := HOV2.out
                    go_wp2
                    go_ret
                    exact ⟨ret_bool (by simp), HE.out.trans (HX12.out.trans hE13)⟩
                  · have hme : ((m : Int) == 1) = false := by rw [beq_eq_false_iff_ne]; omega
                    go_wp2_with fail
                    refine (CV.out w12 HX12.out).mono ?_
                    rintro e w13 ⟨rfl, hE13⟩
                    have HX13 := hide (HX12.out.trans hE13)
                    have HP13 := hide (HP12.out.ext hE13)
                    have hjm : j < m := by omega
                    obtain ⟨b1, o1, z, e9, hb1, hz, wz, hcz⟩ := HP13.out.get hjm
                    cases e9
                    have hoz : ov = z := by
                      rw [HFO.out, if_neg hmo, List.getD_eq_getElem?_getD, show m - 1 = j by omega, hz]; rfl
                    subst hoz
                    clear hz k0 k1 hE13 HP12
                    have k0 := HX13.out.get C0.out
                    have k1 := HX13.out.get C1.out
                    have d0 := after_cell k0
                    have d1 := after_cell k1
                    have dz := after_cell hcz
                    have hj0 : (0 : Int) ≤ (j : Int) := by omega
                    have hjmi : (j : Int) < (m : Int) := by omega
                    have CFA := hide (fun (e : After w13) => CF.out e.val (HX13.out.trans e.property))
                    have HLA := hide (show 0 ≤ sv → wi = sv ∧ ex = 0 ∧ lastS S j = sv from fun h0 => by
                      obtain ⟨s1, s2, s3⟩ := HD.out.sove (by rw [HSVE.out]; exact h0)
                      rw [HSVE.out] at s1 s3
                      obtain ⟨v, hv⟩ := s3 (by omega)
                      rw [HSL.out] at hv
                      refine ⟨s1, s2, ?_⟩
                      obtain ⟨i, hi⟩ : ∃ i, j = i + 1 := ⟨j - 1, by omega⟩
                      rw [hi] at hv ⊢
                      rw [Nat.add_sub_cancel] at hv
                      simp [lastS, List.getD, hv])
                    generalize lastS S j = la at *
                    have hwj : IntKind.i64.wrap (j : Int) = (j : Int) := by rw [IntKind.wrap_i64]; omega
                    have HX0 := hide (HE.out.trans HX13.out)
                    clear hmo hme k0 k1 hcz
                    rcases HO.out.1 with hL | hL
                    · have hL1 : ((L : Int) == 2 * (m : Int) - 2) = true := by rw [beq_iff_eq]; omega
                      clear hL
                      by_cases hsv0 : sv < 0
                      · go_wp2
                        refine wp_region_ext (by kernel_rfl) (by kernel_rfl) ?_
                        repeat (go_big_quiet_step ((go_at_call 73; exact after_call (CFA.out _))))
                        refine wpQuiet_nil ?_
                        rintro w14 ⟨⟨w14, hE14⟩, rfl⟩
                        go_wp2
                        go_ret
                        exact ⟨ret_bool (by simp), HX0.out.trans hE14⟩
                      · obtain ⟨s1, s2, s3⟩ := HLA.out (by omega)
                        exact absurd HEX.out (by omega)
                    · have hL1 : ((L : Int) == 2 * (m : Int) - 2) = false := by rw [beq_eq_false_iff_ne]; omega
                      have hL2 : ((L : Int) == 2 * (m : Int) - 1) = true := by rw [beq_iff_eq]; omega
                      clear hL
                      by_cases hsv0 : sv < 0
                      · go_wp2
                        refine wp_region_ext (by kernel_rfl) (by kernel_rfl) ?_
                        repeat (go_big_quiet_step ((go_at_call 73; exact after_call (CFA.out _))))
                        refine wpQuiet_nil ?_
                        rintro w14 ⟨⟨w14, hE14⟩, rfl⟩
                        go_wp2
                        go_ret
                        exact ⟨ret_bool (by simp), HX0.out.trans hE14⟩
                      · obtain ⟨s1, s2, s3⟩ := HLA.out (by omega)
                        exact absurd HEX.out (by omega)
    · have hdx : decide (ex = 1) = false := decide_eq_false hex1
      have HEX := hide (show ex = 0 by omega)
      have hq1 : ((N : Int) != 2 * (m : Int) - 2) = false := by simp; omega
      clear hex hNe hex1
      go_wp2
      go_loopw [10, 11, 64] (fun se ga i wr => ∃ j : Nat, j ≤ m ∧ i = .int .i64 (j : Int) ∧ se = .int .i64 (setN (P.take j) : Int) ∧ ga = .int .i64 (playSum G (P.take j) : Int) ∧ Ext w6 wr) (fun _ _ i _ => m - (intOf i).toNat)
      case atStart => exact ⟨0, Nat.zero_le _, rfl, rfl, rfl, Ext.refl _⟩
      case round =>
        obtain ⟨j, hj, rfl, rfl, rfl, hE⟩ := hrel
        have HER := hide hE
        have HXR := hide (HX6.out.trans hE)
        clear hE k0 k1 hcx0
        have k0 := HXR.out.get C0.out
        have k1 := HXR.out.get C1.out
        have hps := play_bound G (P.take j)
        have hjl : (P.take j).length ≤ 7 := by have := HPL.out; rw [List.length_take]; omega
        have hps : playSum G (P.take j) ≤ 112 := Nat.le_trans hps (Nat.le_trans (Nat.mul_le_mul hjl (by have := HN.out; omega : G.length ≤ 16)) (by decide))
        by_cases hlt : j < m
        · have hji : (j : Int) < (m : Int) := by omega
          obtain ⟨b1, o1, x, e9, hb1, hx, wx, hcx⟩ := (HPI.out.ext HER.out).get hlt
          cases e9
          have hxm := List.mem_of_getElem? hx
          have hxb := HD.out.pbnd x hxm
          obtain ⟨a, rfl⟩ : ∃ a : Nat, x = (a : Int) := ⟨x.toNat, by omega⟩
          have ham : a < m := by omega
          have hsn := setN_bits (P.take j) (fun y hy => by have := HD.out.pbnd y (List.mem_of_mem_take hy); omega) (HD.out.pnod.sublist (List.take_sublist _ _))
          have hbit := bit_oneD hsn.1 a
          have hnin : ¬ (a : Int) ∈ P.take j := fun hh => by
            obtain ⟨i, hi, e⟩ := List.getElem_of_mem hh
            rw [List.length_take] at hi
            have h2 : P[i]? = some (a : Int) := by rw [List.getElem?_eq_getElem (by omega), ← e, List.getElem_take]
            have := nodup_idx HD.out.pnod h2 hx
            omega
          rw [hsn.2 a (by omega), decide_eq_false hnin] at hbit
          have HSN := hide (show setN (P.take (j + 1)) = setN (P.take j) + 2 ^ a by rw [take_snoc_of hx, setN_snoc, Int.toNat_natCast])
          have HPS := hide (show playSum G (P.take (j + 1)) = playSum G (P.take j) + playsOf G (a : Int) by rw [take_snoc_of hx, playSum_snoc])
          have HADD := hide (add_shl (m := setN (P.take j)) (b := a) (by omega) hsn.1)
          have hsn8 := hsn.1
          have hpl : playsOf G (a : Int) ≤ 16 := Nat.le_trans List.countP_le_length (by have := HN.out; omega)
          have HX := hide hx
          have CD := CDEF.out a ham
          have CGa := hide (CGAM.out a ham)
          have ha0 : ¬ (a : Int) < 0 := by omega
          have ha1 : ¬ (m : Int) ≤ (a : Int) := by omega
          have ha64 : min a 64 = a := by omega
          have hai0 : (0 : Int) ≤ (a : Int) := by omega
          clear hsn hnin hxm hxb hx
          generalize setN (P.take j) = sN at *
          generalize playSum G (P.take j) = pS at *
          generalize playsOf G (a : Int) = pl at *
          by_cases hj0 : j = 0
          · have hjz : ¬ (0 : Int) < (j : Int) := by omega
            have hje : ((j : Int) == 0) = true := by simpa using hj0
            rw [show lossOf G (a : Int) = 0 from by
              have h1 := HX.out; rw [hj0, HD.out.pfst] at h1
              rw [← Option.some.inj h1, HD.out.lwin]; exact HEX.out] at CD
            replace CD := hide CD
            have HJ0 := hide hj0
            clear hj0
            go_wp2_with fail
            rw [HADD.out]
            refine (CD.out _ HXR.out).mono ?_
            rintro e w7 ⟨rfl, hE7⟩
            have HX7 := hide (HXR.out.trans hE7)
            have HE7 := hide (HER.out.trans hE7)
            clear k0 k1 hE7
            have k0 := HX7.out.get C0.out
            have k1 := HX7.out.get C1.out
            go_wp2_with fail
            refine (CGa.out _ HX7.out).mono ?_
            rintro e w8 ⟨rfl, hE8⟩
            have HE8 := hide (HE7.out.trans hE8)
            clear hE8
            go_wp2
            go_roundw
            case rel => exact ⟨j + 1, by omega, by go_num, by rw [HSN.out]; simp, by rw [HPS.out]; go_num, HE8.out⟩
            case measure => (simp [intOf] <;> omega)
          · have hjz : (0 : Int) < (j : Int) := by omega
            have hje : ((j : Int) == 0) = false := by simpa using hj0
            rw [show lossOf G (a : Int) = 2 from HD.out.loth j _ (by omega) HX.out] at CD
            replace CD := hide CD
            clear hj0
            go_wp2_with fail
            rw [HADD.out]
            refine (CD.out _ HXR.out).mono ?_
            rintro e w7 ⟨rfl, hE7⟩
            have HX7 := hide (HXR.out.trans hE7)
            have HE7 := hide (HER.out.trans hE7)
            clear k0 k1 hE7
            have k0 := HX7.out.get C0.out
            have k1 := HX7.out.get C1.out
            go_wp2_with fail
            refine (CGa.out _ HX7.out).mono ?_
            rintro e w8 ⟨rfl, hE8⟩
            have HE8 := hide (HE7.out.trans hE8)
            clear hE8
            go_wp2
            go_roundw
            case rel => exact ⟨j + 1, by omega, by go_num, by rw [HSN.out]; simp, by rw [HPS.out]; go_num, HE8.out⟩
            case measure => (simp [intOf] <;> omega)
        · have hjm : j = m := by omega
          have hpsum : playSum G (P.take j) = 2 * N := by rw [List.take_of_length_le (by have := HPL.out; omega), HD.out.psum, HN.out]
          rw [hpsum]
          generalize setN (P.take j) = sN at *
          clear hjm hjl hps hpsum
          obtain ⟨w7, rfl⟩ : ∃ w7 : World, w7 = wr := ⟨_, rfl⟩
          have HG7 := hide (HGr.out.ext HER.out)
          have HP7 := hide (HPI.out.ext HER.out)
          have HX7 := hide HXR.out
          rw [show ((2 * N : Nat) : Int) = 2 * (N : Int) by omega]
          clear HER HXR HGr HPI
          go_wp2
          go_loopw [113] (fun i wr => ∃ j : Nat, j ≤ N ∧ i = .int .i64 (j : Int) ∧ Ext w7 wr) (fun i _ => N - (intOf i).toNat)
          case atStart => exact ⟨0, Nat.zero_le _, rfl, Ext.refl _⟩
          case round =>
            obtain ⟨j, hj, rfl, hE⟩ := hrel
            have HER := hide hE
            have HXR := hide (HX7.out.trans hE)
            clear hE k0 k1
            have k0 := HXR.out.get C0.out
            have k1 := HXR.out.get C1.out
            by_cases hlt : j < N
            · have hji : (j : Int) < (N : Int) := by omega
              obtain ⟨rb, ro, RA, rd, r, rfl, hrbl, hr, hcr, hri⟩ := (HG7.out.ext HER.out).get hlt
              obtain ⟨u, v, rfl, hu, hv, hbt⟩ := HD.out.gbts r (List.mem_of_getElem? hr)
              obtain ⟨vb, vo, y0, rfl, hvb, hy0, wy0, hc0⟩ := hri.get (k := 0) (by simp)
              obtain ⟨vb', vo', y1, e1, _, hy1, _, hc1⟩ := hri.get (k := 1) (by simp)
              cases e1
              obtain rfl : (u : Int) = y0 := by simpa using hy0
              obtain rfl : (v : Int) = y1 := by simpa using hy1
              rw [Nat.add_zero] at hc0
              have CBU := fun (e : After wr) => CB.out u v hu hv e.val (HXR.out.trans e.property)
              rw [decide_eq_true hbt] at CBU
              have CBU := hide CBU
              have d0 := after_cell k0
              have d1 := after_cell k1
              have du := after_cell hc0
              have dv := after_cell hc1
              clear hri hr hbt hy0 hy1
              go_wp2
              refine wp_region_ext (by kernel_rfl) (by kernel_rfl) ?_
              repeat (go_big_quiet_step ((go_at_call 25; exact after_call (CBU.out _))))
              refine wpQuiet_nil ?_
              rintro w8 ⟨⟨w8, hE8⟩, rfl⟩
              have HE8 := hide (HER.out.trans hE8)
              clear hE8 d0 d1 du dv hc0 hc1 hcr
              go_wp2
              go_roundw
              case rel => exact ⟨j + 1, by omega, by go_num, HE8.out⟩
              case measure => (simp [intOf] <;> omega)
            · obtain ⟨w8, rfl⟩ : ∃ w8 : World, w8 = wr := ⟨_, rfl⟩
              have HP8 := hide (HP7.out.ext HER.out)
              have HX8 := hide HXR.out
              clear HER HXR HG7 HP7
              go_wp2_with fail
              refine (CS.out w8 HX8.out).mono ?_
              rintro e w9 ⟨SA, sc, rfl, hoS, hE9⟩
              have HS9 := hide hoS.grid
              have HP9 := hide (HP8.out.ext hE9)
              have HX9 := hide (HX8.out.trans hE9)
              obtain ⟨q, hq⟩ : ∃ q : Nat, (m : Int) - 1 = (q : Int) := ⟨m - 1, by omega⟩
              have HSL := hide (show S.length = q by have := HD.out.slen; omega)
              rw [HSL.out] at HS9 ⊢
              have HS9 := hide HS9.out
              clear hoS hE9 k0 k1 HP8
              have k0 := HX9.out.get C0.out
              have k1 := HX9.out.get C1.out
              go_wp2
              go_loopw [18, 136] (fun la i wr => ∃ j : Nat, j ≤ q ∧ i = .int .i64 (j : Int) ∧ la = .int .i64 (lastS S j) ∧ Ext w9 wr) (fun _ i _ => q - (intOf i).toNat)
              case atStart => exact ⟨0, Nat.zero_le _, rfl, rfl, Ext.refl _⟩
              case round =>
                obtain ⟨j, hj, rfl, rfl, hE⟩ := hrel
                have HER := hide hE
                have HXR := hide (HX9.out.trans hE)
                clear hE k0 k1
                have k0 := HXR.out.get C0.out
                have k1 := HXR.out.get C1.out
                by_cases hlt : j < q
                · have hji : (j : Int) < (q : Int) := by omega
                  obtain ⟨rb, ro, RA, rd, r, rfl, hrbl, hr, hcr, hri⟩ := (HS9.out.ext HER.out).get hlt
                  obtain ⟨u, v, rfl, hu, hv, hbt⟩ := HD.out.sbts r (List.mem_of_getElem? hr)
                  obtain ⟨vb, vo, y0, rfl, hvb, hy0, wy0, hc0⟩ := hri.get (k := 0) (by simp)
                  obtain ⟨vb', vo', y1, e1, _, hy1, _, hc1⟩ := hri.get (k := 1) (by simp)
                  cases e1
                  obtain rfl : (u : Int) = y0 := by simpa using hy0
                  obtain rfl : (v : Int) = y1 := by simpa using hy1
                  rw [Nat.add_zero] at hc0
                  have CBU := fun (e : After wr) => CB.out u v hu hv e.val (HXR.out.trans e.property)
                  rw [decide_eq_true hbt] at CBU
                  have CBU := hide CBU
                  have HLS := hide (show lastS S (j + 1) = (u : Int) by simp [lastS, List.getD, hr])
                  have HCU := hide hc0
                  have d0 := after_cell k0
                  have d1 := after_cell k1
                  have du := after_cell hc0
                  have dv := after_cell hc1
                  clear hri hr hbt hy0 hy1
                  go_wp2
                  refine wp_region_ext (by kernel_rfl) (by kernel_rfl) ?_
                  repeat (go_big_quiet_step ((go_at_call 25; exact after_call (CBU.out _))))
                  refine wpQuiet_nil ?_
                  rintro w10 ⟨⟨w10, hE10⟩, rfl⟩
                  have hcu := hE10.get HCU.out
                  have HE10 := hide (HER.out.trans hE10)
                  clear hE10 d0 d1 du dv hc0 hc1 hcr
                  go_wp2
                  go_roundw
                  case rel => exact ⟨j + 1, by omega, by go_num, by rw [HLS.out], HE10.out⟩
                  case measure => (simp [intOf] <;> omega)
                · obtain ⟨w10, rfl⟩ : ∃ w10 : World, w10 = wr := ⟨_, rfl⟩
                  have hjq : j = q := by omega
                  subst hjq
                  have HP10 := hide (HP9.out.ext HER.out)
                  have HX10 := hide HXR.out
                  clear HER HXR HS9 HP9
                  have CO := hide (makeOrder_any A n c bs 20 m w10 (HB.out.ext (HE.out.trans HX10.out)) (by omega) hm1 (by omega))
                  go_wp2_with fail
                  refine CO.out.mono ?_
                  rintro e w11 ⟨o, OB, od, hpo, rfl, hoo, hE11⟩
                  have HX11 := hide (HX10.out.trans hE11)
                  have HP11 := hide (HP10.out.ext hE11)
                  have HO := hide (HORD.out o hpo)
                  have CDO := iDoubleOrder_any (m : Int) B m d xs OB m od o w11 (HI.out.ext HX11.out) hoo.ints (by omega)
                  rw [decide_eq_true HO.out.1] at CDO
                  have CDO := hide CDO
                  clear hpo hoo hE11 k0 k1 HP10
                  have k0 := HX11.out.get C0.out
                  have k1 := HX11.out.get C1.out
                  go_wp2_with fail
                  refine CDO.out.mono ?_
                  rintro e w12 ⟨HA, hcap, rfl, hoh, hE12⟩
                  have HX12 := hide (HX11.out.trans hE12)
                  have HP12 := hide (HP11.out.ext hE12)
                  obtain ⟨L, hL⟩ : ∃ L, (orderG (m : Int) xs o).length = L := ⟨_, rfl⟩
                  rw [hL] at HO ⊢
                  have HO := hide HO.out.2
                  clear hoh hE12 hL k0 k1 HP11
                  have k0 := HX12.out.get C0.out
                  have k1 := HX12.out.get C1.out
                  by_cases hmo : m = 1
                  · have hme : ((m : Int) == 1) = true := by rw [beq_iff_eq]; omega
                    have hw0 : (wi == 0) = true := by
                      have h1 := HD.out.pbnd wi (List.mem_of_getElem? HD.out.pfst)
                      simp; omega
                    have hov : ov = -1 := by rw [HFO.out, if_pos hmo]
                    have hL0 : ((L : Int) == 0) = true := by have := HO.out.2 hmo; simp; omega
                    have hq0 : ((j : Int) == 0) = true := by simp; omega
                    have HOV := hide hov
                    have HOV2 := hide (show (ov == -1) = true by rw [hov]; rfl)
                    clear hov hmo
                    go_wp2_with fail
                    refine (CF.out w12 HX12.out).mono ?_
                    rintro e w13 ⟨rfl, hE13⟩
                    have hov2 := HOV2.out
                    go_wp2
                    go_ret
                    exact ⟨ret_bool (by simp), HE.out.trans (HX12.out.trans hE13)⟩
                  · have hme : ((m : Int) == 1) = false := by rw [beq_eq_false_iff_ne]; omega
                    go_wp2_with fail
                    refine (CV.out w12 HX12.out).mono ?_
                    rintro e w13 ⟨rfl, hE13⟩
                    have HX13 := hide (HX12.out.trans hE13)
                    have HP13 := hide (HP12.out.ext hE13)
                    have hjm : j < m := by omega
                    obtain ⟨b1, o1, z, e9, hb1, hz, wz, hcz⟩ := HP13.out.get hjm
                    cases e9
                    have hoz : ov = z := by
                      rw [HFO.out, if_neg hmo, List.getD_eq_getElem?_getD, show m - 1 = j by omega, hz]; rfl
                    subst hoz
                    clear hz k0 k1 hE13 HP12
                    have k0 := HX13.out.get C0.out
                    have k1 := HX13.out.get C1.out
                    have d0 := after_cell k0
                    have d1 := after_cell k1
                    have dz := after_cell hcz
                    have hj0 : (0 : Int) ≤ (j : Int) := by omega
                    have hjmi : (j : Int) < (m : Int) := by omega
                    have CFA := hide (fun (e : After w13) => CF.out e.val (HX13.out.trans e.property))
                    have HLA := hide (show 0 ≤ sv → wi = sv ∧ ex = 0 ∧ lastS S j = sv from fun h0 => by
                      obtain ⟨s1, s2, s3⟩ := HD.out.sove (by rw [HSVE.out]; exact h0)
                      rw [HSVE.out] at s1 s3
                      obtain ⟨v, hv⟩ := s3 (by omega)
                      rw [HSL.out] at hv
                      refine ⟨s1, s2, ?_⟩
                      obtain ⟨i, hi⟩ : ∃ i, j = i + 1 := ⟨j - 1, by omega⟩
                      rw [hi] at hv ⊢
                      rw [Nat.add_sub_cancel] at hv
                      simp [lastS, List.getD, hv])
                    generalize lastS S j = la at *
                    have hwj : IntKind.i64.wrap (j : Int) = (j : Int) := by rw [IntKind.wrap_i64]; omega
                    have HX0 := hide (HE.out.trans HX13.out)
                    clear hmo hme k0 k1 hcz
                    rcases HO.out.1 with hL | hL
                    · have hL1 : ((L : Int) == 2 * (m : Int) - 2) = true := by rw [beq_iff_eq]; omega
                      clear hL
                      by_cases hsv0 : sv < 0
                      · go_wp2
                        refine wp_region_ext (by kernel_rfl) (by kernel_rfl) ?_
                        repeat (go_big_quiet_step ((go_at_call 73; exact after_call (CFA.out _))))
                        refine wpQuiet_nil ?_
                        rintro w14 ⟨⟨w14, hE14⟩, rfl⟩
                        go_wp2
                        go_ret
                        exact ⟨ret_bool (by simp), HX0.out.trans hE14⟩
                      · obtain ⟨s1, s2, s3⟩ := HLA.out (by omega)
                        have hs1 : (wi == sv) = true := by rw [beq_iff_eq]; exact s1
                        have hs3 : (la == sv) = true := by rw [beq_iff_eq]; exact s3
                        have hsd : decide (sv < 0) = false := decide_eq_false hsv0
                        have hsge : 0 ≤ sv := by omega
                        clear s1 s2 s3
                        go_wp2
                        refine wp_region_ext (by kernel_rfl) (by kernel_rfl) ?_
                        repeat (go_big_quiet_step ((go_at_call 73; exact after_call (CFA.out _))))
                        refine wpQuiet_nil ?_
                        rintro w14 ⟨⟨w14, hE14⟩, rfl⟩
                        go_wp2
                        go_ret
                        exact ⟨ret_bool (by simp), HX0.out.trans hE14⟩
                    · have hL1 : ((L : Int) == 2 * (m : Int) - 2) = false := by rw [beq_eq_false_iff_ne]; omega
                      have hL2 : ((L : Int) == 2 * (m : Int) - 1) = true := by rw [beq_iff_eq]; omega
                      clear hL
                      by_cases hsv0 : sv < 0
                      · go_wp2
                        refine wp_region_ext (by kernel_rfl) (by kernel_rfl) ?_
                        repeat (go_big_quiet_step ((go_at_call 73; exact after_call (CFA.out _))))
                        refine wpQuiet_nil ?_
                        rintro w14 ⟨⟨w14, hE14⟩, rfl⟩
                        go_wp2
                        go_ret
                        exact ⟨ret_bool (by simp), HX0.out.trans hE14⟩
                      · obtain ⟨s1, s2, s3⟩ := HLA.out (by omega)
                        have hs1 : (wi == sv) = true := by rw [beq_iff_eq]; exact s1
                        have hs3 : (la == sv) = true := by rw [beq_iff_eq]; exact s3
                        have hsd : decide (sv < 0) = false := decide_eq_false hsv0
                        have hsge : 0 ≤ sv := by omega
                        clear s1 s2 s3
                        go_wp2
                        refine wp_region_ext (by kernel_rfl) (by kernel_rfl) ?_
                        repeat (go_big_quiet_step ((go_at_call 73; exact after_call (CFA.out _))))
                        refine wpQuiet_nil ?_
                        rintro w14 ⟨⟨w14, hE14⟩, rfl⟩
                        go_wp2
                        go_ret
                        exact ⟨ret_bool (by simp), HX0.out.trans hE14⟩

end Go.Proofs.Ytbaljgdepicigaa
