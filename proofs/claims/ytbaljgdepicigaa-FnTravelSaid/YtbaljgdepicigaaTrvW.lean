/-
  The walk of the law on travel: no club travels less than the shortest tour through where it plays.
-/
import Derived.Deep.RegionLaw
import Derived.Laws.ShiftsVar
import Derived.Deep.DeepCutAuto
import Derived.Test.YtbaljgdepicigaaBase
import Derived.Test.YtbaljgdepicigaaMathA
import Derived.Test.YtbaljgdepicigaaMathD
import Derived.Test.YtbaljgdepicigaaLib
import Derived.Test.YtbaljgdepicigaaAid
import Derived.Test.YtbaljgdepicigaaStep
import Derived.Test.YtbaljgdepicigaaGrid
import Derived.Test.YtbaljgdepicigaaLibF
import Derived.Test.YtbaljgdepicigaaMathB
import Derived.Test.YtbaljgdepicigaaMathU
import Derived.Test.YtbaljgdepicigaaMathW
import Derived.Test.YtbaljgdepicigaaMathG
import Derived.Test.YtbaljgdepicigaaMathT
import Derived.Test.YtbaljgdepicigaaMathM
import Derived.Test.YtbaljgdepicigaaMathTr
import Derived.Test.YtbaljgdepicigaaMathTp
import Derived.Test.YtbaljgdepicigaaTrvP
import Derived.Test.YtbaljgdepicigaaTen
import Derived.Test.YtbaljgdepicigaaSeed
import Derived.Test.YtbaljgdepicigaaTour
import Derived.Test.YtbaljgdepicigaaWin
import Derived.Test.YtbaljgdepicigaaDist
import Derived.Test.YtbaljgdepicigaaPlan
import Derived.Test.YtbaljgdepicigaaPlanB
import Derived.Test.YtbaljgdepicigaaPlanC
import Derived.Test.YtbaljgdepicigaaTrip
import Derived.Test.YtbaljgdepicigaaTourM
import Derived.Test.YtbaljgdepicigaaTourN
import Derived.Test.YtbaljgdepicigaaTourL
import Derived.Test.YtbaljgdepicigaaCurA
import Derived.Test.YtbaljgdepicigaaDrwA
import Derived.Test.YtbaljgdepicigaaDrwB
import Derived.Test.YtbaljgdepicigaaDrwE
import Derived.Test.YtbaljgdepicigaaSwsA
import Derived.Test.YtbaljgdepicigaaTrvB
import Derived.Test.YtbaljgdepicigaaTrvA
import Derived.Test.YtbaljgdepicigaaTrvC
import Derived.Test.YtbaljgdepicigaaTrvD
import Derived.Test.YtbaljgdepicigaaTrvE
import Derived.Test.YtbaljgdepicigaaTrvF
namespace Go.Proofs.Ytbaljgdepicigaa
open Go.RowKit
set_option linter.unusedVariables false
set_option maxRecDepth 100000

-- laws.FnTravel
set_option maxHeartbeats 60000000 in
theorem law_Travel (A : Option Addr) (n c : Nat) (bs : List Int) (w : World) (h : Bts w A n c bs) :
    Calls Try.prog 9 #[.slice A n c] w fun e w' => e = .returned (.bool true) ∧ Ext w w' := by
  have HB := hide h
  have hle := h.rd.le
  have hmx := h.rd.max
  clear h
  by_cases hn : (1048576 : Int) < (n : Int)
  · go_enter Try.func9, Try.ntmps9
    go_wp2
    go_ret
    exact ⟨rfl, Ext.refl _⟩
  · go_enter Try.func9, Try.ntmps9
    go_wp2_with fail
    refine (makePlan_any A n c bs 0 w HB.out (by omega)).mono ?_
    rintro e w1 ⟨N, rows, P, pc, hN2, hN8, hNe, hp, rfl, hg, hE1⟩
    have HP := hide hp
    have HG1 := hide hg
    have HE1 := hide hE1
    have HC := hide hp.1
    have h36 := hp.2.1
    clear hp hg hE1 hNe
    go_wp2_with fail
    refine (makeFar_any A n c bs 40 N w1 (HB.out.ext HE1.out) (by omega) HC.out).mono ?_
    rintro e w2 ⟨l, Q, qc, hll, hlb, rfl, hf, hE2⟩
    have HLB := hide hlb
    have HLL := hide hll
    have HF := hide hf
    have HG := hide (HG1.out.ext hE2)
    have HE2 := hide (HE1.out.trans hE2)
    have HM := hide (line_dist (l := l) HC.out (by rw [hll]) hlb)
    have HD := hide HM.out.1
    have hN64 : I64 (N : Int) := ⟨by omega, by omega⟩
    obtain ⟨far, hfar⟩ : ∃ far, lineFar l = far := ⟨_, rfl⟩
    have HEN := hide (fun (k : Nat) (hk : k < N) => end_t (l := l) (k := k) HP.out hll hlb hk hN8)
    rw [hfar] at HF HM HD HEN
    obtain ⟨m, hm⟩ : ∃ m, rows.length = m := ⟨_, rfl⟩
    rw [hm] at HG h36 HEN ⊢
    have HML := hide hm
    clear hlb hll hf hE2 hfar hm HG1 HE1 HC HLL HLB
    have CD := hide (iDistOk_any (N : Int) Q N qc far w2 hN64 HF.out)
    rw [decide_eq_true HD.out] at CD
    have CM := hide (fun w' (hE : Ext w2 w') => iMetric_any (N : Int) Q N qc far w' hN64 (HF.out.ext hE))
    rw [decide_eq_true HM.out] at CM
    go_wp2_with (first
      | (go_at_call 54; refine CD.out.mono ?_; rintro e w3 ⟨rfl, hE3⟩)
      | (go_at_call 55; refine (CM.out _ hE3).mono ?_; rintro e w4 ⟨rfl, hE4⟩))
    have HE4 := hide (hE3.trans hE4)
    clear hE3 hE4 CD CM HM
    go_loopw [6, 7] (fun t i wr => ∃ k : Nat, k ≤ N ∧ i = .int .i64 (k : Int) ∧ t = .int .i64 (travelTo rows far k) ∧ Hid (Ext w2 wr)) (fun _ i _ => N - (intOf i).toNat)
    case atStart => exact ⟨0, Nat.zero_le _, rfl, rfl, HE4⟩
    case round => as_aux_lemma =>
      obtain ⟨k, hk, rfl, rfl, HER⟩ := hrel
      obtain ⟨w5, rfl⟩ : ∃ w5 : World, w5 = wr := ⟨_, rfl⟩
      by_cases hlt : k < N
      · have hki : (k : Int) < (N : Int) := by omega
        have hk64 : I64 (k : Int) := ⟨by omega, by omega⟩
        have CP := hide (iPlacesOf_any (N : Int) P m pc rows (k : Int) w5 hN64 (HG.out.ext HER.out))
        have HPE := hide (places_end HP.out hlt)
        have HPL := hide (placesOf_len rows k)
        rw [HPE.out] at CP
        go_wp2_with fail
        refine CP.out.mono ?_
        rintro e w6 ⟨L, lc, rfl, hoL, hE6⟩
        rw [HPL.out, HML.out] at hoL ⊢
        have HL6 := hide hoL.ints
        have HE6 := hide (HER.out.trans hE6)
        clear hoL hE6 CP
        go_wp2_with fail
        refine (iTripOf_any (N : Int) P m pc rows Q N qc far (k : Int) w6 hN64 (HG.out.ext HE6.out) (HF.out.ext HE6.out)).mono ?_
        rintro e w7 ⟨rfl, hE7⟩
        have HL7 := hide (HL6.out.ext hE7)
        have HE7 := hide (HE6.out.trans hE7)
        clear hE7 HL6
        have HND := hide (HEN.out k hlt)
        have htb := travelTo_bound HP.out HD.out (k := k) (by omega)
        have HTS := hide (travel_step HP.out HD.out hlt)
        have htb2 := travelTo_bound HP.out HD.out (k := k + 1) (by omega)
        rw [HTS.out] at htb2
        obtain ⟨d, hd⟩ : ∃ d, trip (N : Int) rows far (k : Int) = d := ⟨_, rfl⟩
        rw [hd] at htb2 HND HTS ⊢
        obtain ⟨t0, ht0⟩ : ∃ t0, travelTo rows far k = t0 := ⟨_, rfl⟩
        rw [ht0] at htb htb2 HTS ⊢
        have hwt : IntKind.i64.wrap (t0 + d) = t0 + d := by rw [IntKind.wrap_i64]; omega
        clear hd ht0
        go_wp2
        obtain ⟨w8, rfl⟩ : ∃ w8 : World, w8 = w7 := ⟨_, rfl⟩
        go_loopw [10, 12, 13, 14, 69] (fun s a at_ t i wr => ∃ j : Nat, j ≤ m ∧ i = .int .i64 (j : Int) ∧ s = .int .i64 (stT rows k j : Int) ∧ a = .int .i64 (awT rows k j : Int) ∧ at_ = .int .i64 ((wyT rows far k j).2 : Int) ∧ t = .int .i64 (wyT rows far k j).1 ∧ w8 = wr) (fun _ _ _ _ i _ => m - (intOf i).toNat)
        case atStart => exact ⟨0, Nat.zero_le _, rfl, rfl, rfl, rfl, rfl, rfl⟩
        case round => as_aux_lemma =>
          obtain ⟨j, hj, rfl, rfl, rfl, rfl, rfl, rfl⟩ := hrel
          have HAT := hide (at_t (far := far) (k := k) (j := j) HP.out HD.out hN8 hlt (by rw [HML.out]; exact hj))
          by_cases hjl : j < m
          · have hji : (j : Int) < (m : Int) := by omega
            obtain ⟨x, hst⟩ := step_t (n := N) (rows := rows) far (k := k) (j := j) HP.out hlt (by rw [HML.out]; exact hjl)
            have hxN := hst.lt
            obtain ⟨b, off, y, rfl, hbl, hy, wy, hcy⟩ := HL7.out.get hjl
            rw [hst.pl] at hy
            obtain rfl : (x : Int) = y := Option.some.inj hy
            have HST := hide hst
            have hatN := HAT.out.at'
            obtain ⟨b1, o1, b2, o2, d2, rfl, hc1, hc2⟩ := far_cell (HF.out.ext HE7.out) HD.out hatN hxN
            have hab := at2_bound HD.out (wyT rows far k j).2 x
            have hwb := HAT.out.w0
            have hs256 := HAT.out.st
            have ha36 := HAT.out.aw
            have hwy := HST.out.wy
            obtain ⟨S, hS⟩ : ∃ S, stT rows k j = S := ⟨_, rfl⟩
            obtain ⟨av, hav⟩ : ∃ av, awT rows k j = av := ⟨_, rfl⟩
            have HSA := hide (And.intro hS hav)
            rw [hS] at hs256
            rw [hav] at ha36
            generalize wyT rows far k j = st at *
            obtain ⟨t, a⟩ := st
            simp only at hwy hab hwb hatN hc1 hc2 ⊢
            have HWY := hide hwy
            obtain ⟨v, hv⟩ : ∃ v, at2 far a x = v := ⟨_, rfl⟩
            rw [hv] at hab hc2 HWY
            have hwv : IntKind.i64.wrap (t + v) = t + v := by rw [IntKind.wrap_i64]; omega
            have haN : (a : Int) < (N : Int) := by omega
            have hxNi : (x : Int) < (N : Int) := by omega
            have hxge : ¬ (N : Int) ≤ (x : Int) := by omega
            have hx0 : ¬ (x : Int) < 0 := by omega
            have hx64 : x < 64 := by omega
            clear hy hst hv hwy wy
            rw [hS, hav]
            clear hS hav
            by_cases hxk : x = k
            · have hxb : ((x : Int) != (k : Int)) = false := by simp; omega
              obtain ⟨q1, q2⟩ := HST.out.same hxk
              rw [HSA.out.1] at q1
              rw [HSA.out.2] at q2
              have HQ := hide (And.intro q1 q2)
              clear q1 q2 hxk
              go_wp2
              go_roundw
              case rel => exact ⟨j + 1, by omega, by go_num, by rw [HQ.out.1], by rw [HQ.out.2], by rw [HWY.out], by rw [HWY.out], trivial⟩
              case measure => (simp [intOf] <;> omega)
            · have hxb : ((x : Int) != (k : Int)) = true := by simp; omega
              obtain ⟨q1, q2⟩ := HST.out.new hxk
              rw [HSA.out.1] at q1
              rw [HSA.out.2] at q2
              have HQ := hide (And.intro q1 q2)
              have HOR := hide (or_shl S x hs256 (by omega))
              clear q1 q2 hxk
              go_wp2
              rw [HOR.out]
              go_roundw
              case rel => exact ⟨j + 1, by omega, by go_num, by rw [HQ.out.1], by rw [HQ.out.2]; go_num, by rw [HWY.out], by rw [HWY.out], trivial⟩
              case measure => (simp [intOf] <;> omega)
          · have hjm : j = m := by omega
            subst hjm
            have hji : ¬ (j : Int) < (j : Int) := by omega
            have hwb := HAT.out.w0
            have hatN := HAT.out.at'
            have hs256 := HAT.out.st
            have ha36 := HAT.out.aw
            have hnd := HND.out
            have htr := hnd.trip
            rw [HML.out] at htr
            obtain ⟨b1, o1, b2, o2, d2, rfl, hc1, hc2⟩ := far_cell (HF.out.ext HE7.out) HD.out hatN hlt
            obtain ⟨S, hS⟩ : ∃ S, stT rows k j = S := ⟨_, rfl⟩
            obtain ⟨av, hav⟩ : ∃ av, awT rows k j = av := ⟨_, rfl⟩
            rw [hS] at hs256 hnd ⊢
            rw [hav] at ha36 ⊢
            have haw := hnd.aw
            rw [HML.out, hav] at haw
            have hbo := hnd.both
            rw [HML.out] at hbo
            clear HAT HND hS hav
            generalize wyT rows far k j = ws at *
            obtain ⟨t, a⟩ := ws
            simp only at htr hwb hatN hc1 hc2 ⊢
            obtain ⟨v, hv⟩ : ∃ v, at2 far a k = v := ⟨_, rfl⟩
            rw [hv] at hc2 htr
            have hdw := at2_bound HD.out a k
            rw [hv] at hdw
            have hwd : IntKind.i64.wrap d = d := by rw [IntKind.wrap_i64]; omega
            have haN : (a : Int) < (N : Int) := by omega
            have HND := hide hnd
            obtain ⟨st, hst⟩ : ∃ st, longest homeAt (N : Int) rows (k : Int) = st := ⟨_, rfl⟩
            obtain ⟨tr, htrr⟩ : ∃ tr, longest awayAt (N : Int) rows (k : Int) = tr := ⟨_, rfl⟩
            obtain ⟨T, hT⟩ : ∃ T, leastTour (N : Int) far (k : Int) (S : Int) = T := ⟨_, rfl⟩
            rw [hst, htrr, hT] at HND
            rw [hst, htrr] at hbo
            rw [htrr] at haw
            have CST := hide (iLongestStay_any (N : Int) P j pc rows (k : Int) w8 hN64 hk64 (HG.out.ext HE7.out))
            rw [hst] at CST
            have CTR := hide (fun w' (hE : Ext w8 w') => iLongestTour_any (N : Int) P j pc rows (k : Int) w' hN64 hk64 (HG.out.ext (HE7.out.trans hE)))
            rw [htrr] at CTR
            have CLT := hide (fun w' (hE : Ext w8 w') => iLeast_any (N : Int) (some ⟨b1, o1, none⟩) N qc far (k : Int) (S : Int) w' hN64 (HF.out.ext (HE7.out.trans hE)))
            rw [hT] at CLT
            have HAW := hide haw
            have HBO := hide hbo
            clear hv hnd hst htrr hT haw hbo
            go_wp2
            clear hc1 hc2 htr
            go_loopw [11, 17] (fun h i wr => ∃ x : Nat, x ≤ N ∧ i = .int .i64 (x : Int) ∧ h = .int .i64 (highTo far k S x) ∧ w8 = wr) (fun _ i _ => N - (intOf i).toNat)
            case atStart => exact ⟨0, Nat.zero_le _, rfl, rfl, rfl⟩
            case round => as_aux_lemma =>
              obtain ⟨x, hx, rfl, rfl, rfl⟩ := hrel
              by_cases hxl : x < N
              · have hxi : (x : Int) < (N : Int) := by omega
                have hx64 : x < 64 := by omega
                obtain ⟨b1', o1', b3, o3, d3, e9, hc1, hc2⟩ := far_cell (HF.out.ext HE7.out) HD.out hlt hxl
                cases e9
                have hab := at2_bound HD.out k x
                have hh := high_le HD.out k S x
                have hh0 := (highTo_is far k S x).1
                have HHS := hide (show highTo far k S (x + 1) = if S.testBit x = true then max (highTo far k S x) (at2 far k x) else highTo far k S x from rfl)
                have hbe : bits .and .i64 ((S : Int) / 2 ^ x) 1 = if S.testBit x then 1 else 0 := by rw [and_bit2 (by omega) (by omega), bitAt_nat]
                generalize highTo far k S x = hv at *
                generalize at2 far k x = sv at *
                obtain ⟨mv, hmv⟩ : ∃ mv, (if hv < sv then sv else hv) = mv := ⟨_, rfl⟩
                have HMV := hide (show max hv sv = mv by rw [← hmv]; split <;> omega)
                cases hb : S.testBit x with
                | true =>
                  rw [hb] at hbe HHS
                  have hbits : bits .and .i64 ((S : Int) / 2 ^ x) 1 = 1 := hbe
                  have HQ := hide (show highTo far k S (x + 1) = mv by rw [HHS.out, if_pos rfl, HMV.out])
                  clear hb hbe HHS
                  go_wp2
                  go_roundw
                  case rel => exact ⟨x + 1, by omega, by go_num, by rw [HQ.out], trivial⟩
                  case measure => (simp [intOf] <;> omega)
                | false =>
                  rw [hb] at hbe HHS
                  have hbits : bits .and .i64 ((S : Int) / 2 ^ x) 1 = 0 := hbe
                  have HQ := hide (show highTo far k S (x + 1) = hv by rw [HHS.out]; rfl)
                  clear hb hbe HHS hmv
                  go_wp2
                  go_roundw
                  case rel => exact ⟨x + 1, by omega, by go_num, by rw [HQ.out], trivial⟩
                  case measure => (simp [intOf] <;> omega)
              · have hxe : x = N := by omega
                subst hxe
                have hxi : ¬ (x : Int) < (x : Int) := by omega
                have hh := HND.out.hb
                have k1 := HND.out.lowd
                have k2 := HND.out.st0
                have k3 := HND.out.tr0
                have k4 := HBO.out
                have k5 := HAW.out
                have k6 := HND.out.stb
                have k7 := HND.out.trb
                obtain ⟨l1, l2, l3⟩ := And.intro HND.out.l1 (And.intro HND.out.l2 HND.out.l3)
                generalize highTo far k S x = hv at *
                have hw2 : IntKind.i64.wrap (2 * hv) = 2 * hv := by rw [IntKind.wrap_i64]; omega
                have hw4 : IntKind.i64.wrap (4 * hv) = 4 * hv := by rw [IntKind.wrap_i64]; omega
                have hws : IntKind.i64.wrap (st + tr) = st + tr := by rw [IntKind.wrap_i64]; omega
                clear HND
                go_wp2_with fail
                refine CST.out.mono ?_
                rintro e w9 ⟨rfl, hE9⟩
                have HE9 := hide hE9
                clear hE9
                go_wp2_with fail
                refine (CTR.out _ HE9.out).mono ?_
                rintro e w10 ⟨rfl, hE10⟩
                have HE10 := hide (HE9.out.trans hE10)
                clear hE10
                by_cases h6 : x ≤ 6
                · have h6i : (x : Int) ≤ 6 := by omega
                  go_wp2_with fail
                  refine (CLT.out _ HE10.out).mono ?_
                  rintro e w11 ⟨rfl, hE11⟩
                  have HE11 := hide (HE7.out.trans (HE10.out.trans hE11))
                  clear hE11
                  go_wp2
                  go_roundw
                  case rel => exact ⟨k + 1, by omega, by go_num, by rw [HTS.out], HE11⟩
                  case measure => (simp [intOf] <;> omega)
                · have h6i : ¬ (x : Int) ≤ 6 := by omega
                  have HE11 := hide (HE7.out.trans HE10.out)
                  go_wp2
                  go_roundw
                  case rel => exact ⟨k + 1, by omega, by go_num, by rw [HTS.out], HE11⟩
                  case measure => (simp [intOf] <;> omega)
      · have hke : k = N := by omega
        subst hke
        have hki : ¬ (k : Int) < (k : Int) := by omega
        have HL4 := hide (OwI.lit w5 [0, 7, 3, 10] (base := 0) (by intro x hx; simp at hx; rcases hx with rfl | rfl | rfl | rfl <;> exact ⟨by omega, by omega⟩) (by simp) (Nat.zero_le _))
        have HE1 := hide (Ext.one w5 (.cells #[.int .i64 0, .int .i64 7, .int .i64 3, .int .i64 10] 3))
        have CLN := hide (iLine_any _ 4 4 [0, 7, 3, 10] _ HL4.out.ints (by decide) (by decide))
        have HLF := hide (lineFar_len [0, 7, 3, 10])
        have HFL := hide four_line
        have HTE := hide (travel_end HP.out HD.out)
        generalize lineFar [0, 7, 3, 10] = fr at *
        have CTV := hide (fun w' (hE : Ext w2 w') => iTravelOf_any (k : Int) P m pc rows Q k qc far w' hN64 (HG.out.ext hE) (HF.out.ext hE))
        rw [HTE.out] at CTV
        have htb := travelTo_bound HP.out HD.out (k := k) (by omega)
        obtain ⟨t0, ht0⟩ : ∃ t0, travelTo rows far k = t0 := ⟨_, rfl⟩
        rw [ht0] at htb CTV ⊢
        clear ht0
        go_wp2_with fail
        refine CLN.out.mono ?_
        rintro e w6 ⟨X, xc, rfl, hoX, hE6⟩
        rw [HLF.out] at hoX ⊢
        have HX := hide hoX.grid
        have HE6 := hide (HER.out.trans (HE1.out.trans hE6))
        clear hoX hE6
        have CL0 := hide (fun w' (hE : Ext w6 w') => iLeast_any 4 X 4 xc fr 0 14 w' ⟨by omega, by omega⟩ (HX.out.ext hE))
        have CL1 := hide (fun w' (hE : Ext w6 w') => iLeast_any 4 X 4 xc fr 1 13 w' ⟨by omega, by omega⟩ (HX.out.ext hE))
        rw [HFL.out.1] at CL0
        rw [HFL.out.2] at CL1
        go_wp2_with fail
        refine (CTV.out _ HE6.out).mono ?_
        rintro e w7 ⟨rfl, hE7⟩
        have HE7 := hide hE7
        clear hE7
        go_wp2_with fail
        refine (CL0.out _ HE7.out).mono ?_
        rintro e w8 ⟨rfl, hE8⟩
        have HE8 := hide (HE7.out.trans hE8)
        clear hE8
        go_wp2_with fail
        refine (CL1.out _ HE8.out).mono ?_
        rintro e w9 ⟨rfl, hE9⟩
        have HE9 := hide (HE2.out.trans (HE6.out.trans (HE8.out.trans hE9)))
        clear hE9
        go_wp2
        go_ret
        exact ⟨rfl, HE9.out⟩

end Go.Proofs.Ytbaljgdepicigaa
