/-
  The walk of the law on Swiss rounds: nobody meets twice, and the pairing that is found is one of those that are counted.
-/
import Derived.Deep.RegionLaw
import Derived.Laws.ShiftsVar
import Derived.Deep.DeepCutAuto
import Derived.Test.YtbaljgdepicigaaBase
import Derived.Test.YtbaljgdepicigaaMathA
import Derived.Test.YtbaljgdepicigaaMathD
import Derived.Test.YtbaljgdepicigaaLib
import Derived.Test.YtbaljgdepicigaaAid
import Derived.Test.YtbaljgdepicigaaStep
import Derived.Test.YtbaljgdepicigaaGrid
import Derived.Test.YtbaljgdepicigaaLibF
import Derived.Test.YtbaljgdepicigaaMathB
import Derived.Test.YtbaljgdepicigaaMathU
import Derived.Test.YtbaljgdepicigaaMathW
import Derived.Test.YtbaljgdepicigaaMathZ
import Derived.Test.YtbaljgdepicigaaMathY
import Derived.Test.YtbaljgdepicigaaMathG
import Derived.Test.YtbaljgdepicigaaMathQ
import Derived.Test.YtbaljgdepicigaaMathX
import Derived.Test.YtbaljgdepicigaaMathF
import Derived.Test.YtbaljgdepicigaaMathO
import Derived.Test.YtbaljgdepicigaaMathS
import Derived.Test.YtbaljgdepicigaaMathP
import Derived.Test.YtbaljgdepicigaaMgH
import Derived.Test.YtbaljgdepicigaaPop
import Derived.Test.YtbaljgdepicigaaSeed
import Derived.Test.YtbaljgdepicigaaTour
import Derived.Test.YtbaljgdepicigaaTourB
import Derived.Test.YtbaljgdepicigaaDblA
import Derived.Test.YtbaljgdepicigaaDblB
import Derived.Test.YtbaljgdepicigaaSwiss
import Derived.Test.YtbaljgdepicigaaSwissB
import Derived.Test.YtbaljgdepicigaaSortA
import Derived.Test.YtbaljgdepicigaaWin
import Derived.Test.YtbaljgdepicigaaFillD
import Derived.Test.YtbaljgdepicigaaFillF
import Derived.Test.YtbaljgdepicigaaFillG
import Derived.Test.YtbaljgdepicigaaFillH
import Derived.Test.YtbaljgdepicigaaPlayA
import Derived.Test.YtbaljgdepicigaaPlayB
import Derived.Test.YtbaljgdepicigaaMgD
import Derived.Test.YtbaljgdepicigaaCurA
import Derived.Test.YtbaljgdepicigaaCurB
import Derived.Test.YtbaljgdepicigaaDrwA
import Derived.Test.YtbaljgdepicigaaDrwB
import Derived.Test.YtbaljgdepicigaaDrwE
import Derived.Test.YtbaljgdepicigaaSwsA
import Derived.Test.YtbaljgdepicigaaMgS
namespace Go.Proofs.Ytbaljgdepicigaa
open Go.RowKit
set_option linter.unusedVariables false
set_option maxRecDepth 100000

-- spec.MakeSwiss
theorem makeSwiss_any (A : Option Addr) (n c : Nat) (bs : List Int) (m : Nat) (w : World) (h : Bts w A n c bs) (hm : m ≤ 1000) :
    Calls Try.prog 13 #[.slice A n c, .int .i64 (m : Int)] w (RetSw w w) := by
  have C := hide (l32New_any A n c bs m w h hm)
  clear h
  go_enter Try.func13, Try.ntmps13
  go_wp2_with fail
  refine C.out.mono ?_
  rintro e w1 ⟨p, rfl, hC1⟩
  have hz1 := hC1.old.1.size
  have CD := hide (l24Draw_any w w1 p hC1)
  clear hC1
  go_wp2_with fail
  refine CD.out.mono ?_
  rintro e w2 ⟨n', xs, A', c', ms, B, d, h1, h2, h3, rfl, h4, h5, h6⟩
  have H := hide (And.intro h1 (And.intro h2 (And.intro h3 (And.intro h4 (And.intro h5 h6)))))
  clear h1 h2 h3 h4 h5 h6
  go_wp2
  go_ret2
  exact ⟨n', xs, A', c', ms, B, d, H.out.1, H.out.2.1, H.out.2.2.1, rfl, H.out.2.2.2.1.mono hz1, H.out.2.2.2.2.1.mono hz1, H.out.2.2.2.2.2⟩
-- words of the walk
theorem pair_get {xs p : List Int} {a : Nat} (h : xs[a]? = some (p.getD a 0)) : True := trivial
def waysF (n : Nat) : Nat → Nat
  | 0 => 1
  | j + 1 => waysF n j * (n - 1 - 2 * j)
theorem waysF_small : ∀ n : Nat, n < 9 → ∀ j : Nat, j < 4 → waysF n j ≤ 1000 := by decide
theorem waysF_end : ∀ n : Nat, n < 9 → 2 ≤ n → n % 2 = 0 → waysF n (n / 2 - 1) = dfac n := by decide
-- laws.FnSwiss
set_option maxHeartbeats 60000000 in
theorem law_Swiss (A : Option Addr) (n c : Nat) (bs : List Int) (w : World) (h : Bts w A n c bs) :
    Calls Try.prog 3 #[.slice A n c] w fun e w' => e = .returned (.bool true) ∧ Ext w w' := by
  have HB := hide h
  have hle := h.rd.le
  have hmx := h.rd.max
  clear h
  by_cases hn : (1048576 : Int) < (n : Int)
  · go_enter Try.func3, Try.ntmps3
    go_wp2
    go_ret
    exact ⟨rfl, Ext.refl _⟩
  · go_enter Try.func3, Try.ntmps3
    go_wp2_with fail
    refine (makeSwiss_any A n c bs 0 w HB.out (by omega)).mono ?_
    rintro e w1 ⟨N, xs, P, pc', ms, Q, qc, hsw, hxl, hms, rfl, hoP, hoQ, hE1⟩
    have hN := hsw.1
    have hN2 := hsw.2.1
    rw [hxl] at hN hN2
    have HP := hide hoP.ints
    have HQ := hide hoQ.ints
    have HE1 := hide hE1
    have hss := metSt_swiss hms hsw hxl
    have HSS := hide hss
    have HSW := hide hsw
    have HXL := hide hxl
    have HOK := hide (sw_ok hss hxl)
    have HFR := hide (free_ok hsw hxl)
    clear hsw hxl hms hoP hoQ hE1 hss
    go_wp2_with fail
    refine (iPair_any P N pc' xs Q N qc ms w1 HP.out HQ.out).mono ?_
    rintro e w2 ⟨L, lc, rfl, hoL, hE2⟩
    have HL2 := hide hoL.ints
    have HX2 := hide hE2
    clear hoL hE2
    go_wp2_with fail
    refine (iCount_any P N pc' xs Q N qc ms w2 (HP.out.ext HX2.out) (HQ.out.ext HX2.out)).mono ?_
    rintro e w3 ⟨rfl, hE3⟩
    have HL3 := hide (HL2.out.ext hE3)
    have HX3 := hide (HX2.out.trans hE3)
    clear hE3 HL2
    go_wp2_with fail
    refine (iLeast_any P N pc' xs Q N qc ms w3 (HP.out.ext HX3.out) (HQ.out.ext HX3.out)).mono ?_
    rintro e w4 ⟨rfl, hE4⟩
    have HL4 := hide (HL3.out.ext hE4)
    have HX4 := hide (HX3.out.trans hE4)
    clear hE4 HL3
    go_wp2_with fail
    refine (iSwissOrder_any P N pc' xs w4 (HP.out.ext HX4.out)).mono ?_
    rintro e w5 ⟨O, oc, rfl, hoO, hE5⟩
    rw [show swissOrder xs = orderO xs N from by unfold swissOrder; rw [if_pos HSW.out, HXL.out], orderO_len] at hoO ⊢
    have HO5 := hide hoO.ints
    have HL5 := hide (HL4.out.ext hE5)
    have HX5 := hide (HX4.out.trans hE5)
    clear hoO hE5 HL4
    obtain ⟨ok, hok⟩ : ∃ ok, pairB xs ms = ok := ⟨_, rfl⟩
    obtain ⟨cN, hcN⟩ : ∃ cN, countP xs ms = cN := ⟨_, rfl⟩
    obtain ⟨lf, hlf⟩ : ∃ lf, leastP xs ms = lf := ⟨_, rfl⟩
    obtain ⟨l, hl⟩ : ∃ l, pairV xs ms = l := ⟨_, rfl⟩
    obtain ⟨K1, K2, K3, K4⟩ := HOK.out
    rw [hok, hcN] at K1
    rw [hok, hlf] at K2
    rw [hok, hl] at K3
    rw [hok, hl, hlf] at K4
    rw [hl] at HL5
    rw [hok, hcN, hlf, hl]
    have HL5 := hide HL5.out
    have HK := hide (And.intro K1 (And.intro K2 (And.intro K3 K4)))
    clear HOK hok hcN hlf hl K1 K2 K3 K4
    go_upto_region 9 with fail
    go_cut [91] (fun s91 wx => s91 = .bool false ∧ Ext w5 wx)
    case first => as_aux_lemma =>
      have CSO := iSwissOk_any P N pc' xs Q N qc ms w5 (HP.out.ext HX5.out) (HQ.out.ext HX5.out)
      rw [decide_eq_true HSS.out] at CSO
      have CSO := hide CSO
      obtain ⟨K1, K2, K3, K4⟩ := HK.out
      cases ok with
      | true =>
        have hc0 : 0 < cN := by simpa using K1.symm
        have hl0 : 0 ≤ lf := by simpa using K2.symm
        have hip := K3 rfl
        have hfl := K4 rfl
        have HIP := hide hip
        have CFL := hide (fun w' (hE : Ext w5 w') => iFloatOf_any P N pc' xs L l.length lc l w' (HP.out.ext (HX5.out.trans hE)) (HL5.out.ext hE))
        obtain ⟨fl, hfl2⟩ : ∃ fl, floatOf xs l = fl := ⟨_, rfl⟩
        rw [hfl2] at hfl CFL
        have CFL := hide CFL.out
        clear K1 K2 K3 K4 hip hfl2
        go_wp2_with fail
        refine CSO.out.mono ?_
        rintro e w6 ⟨rfl, hE6⟩
        have HX6 := hide hE6
        clear hE6
        go_wp2_with fail
        refine (iIsPairing_any P N pc' xs Q N qc ms L l.length lc l w6 (HP.out.ext (HX5.out.trans HX6.out)) (HQ.out.ext (HX5.out.trans HX6.out)) (HL5.out.ext HX6.out)).mono ?_
        rw [decide_eq_true HIP.out]
        rintro e w7 ⟨rfl, hE7⟩
        have HX7 := hide (HX6.out.trans hE7)
        clear hE7
        go_wp2_with fail
        refine (CFL.out w7 HX7.out).mono ?_
        rintro e w8 ⟨rfl, hE8⟩
        go_wp2
        go_meet
        case rel => exact ⟨by (first | (simp; done) | (simp; omega) | (simp [hc0, hl0]; omega)), HX7.out.trans hE8⟩
      | false =>
        have hc0 : ¬ 0 < cN := by simpa using K1.symm
        have hl0 : ¬ 0 ≤ lf := by simpa using K2.symm
        clear K1 K2 K3 K4
        go_wp2_with fail
        refine CSO.out.mono ?_
        rintro e w6 ⟨rfl, hE6⟩
        go_wp2
        go_meet
        case rel => exact ⟨by (first | (simp; done) | (simp; omega) | (simp [hc0, hl0])), hE6⟩
    case rest => as_aux_lemma =>
      obtain ⟨rfl, hE6⟩ := hcut
      obtain ⟨w6, rfl⟩ : ∃ w6, w6 = wc := ⟨_, rfl⟩
      have HX6 := hide (HX5.out.trans hE6)
      have HO6 := hide (HO5.out.ext hE6)
      clear hE6 HL5 HO5 HK
      go_wp2
      have HST := hide (orderO_sorted xs N)
      have HOM := hide (orderO_mem xs N)
      have HOL := hide (orderO_len xs N)
      go_loopw [11] (fun i wr => ∃ k : Nat, 1 ≤ k ∧ k ≤ N ∧ i = .int .i64 (k : Int) ∧ Ext w6 wr) (fun i _ => N - (intOf i).toNat)
      case atStart => exact ⟨1, Nat.le_refl _, by omega, rfl, Ext.refl _⟩
      case round => as_aux_lemma =>
        obtain ⟨k, hk1, hkN, rfl, hE⟩ := hrel
        have HXR := hide (HX6.out.trans hE)
        have HOR := hide (HO6.out.ext hE)
        have HER := hide hE
        clear hE
        by_cases hlt : k < N
        · have hki : (k : Int) < (N : Int) := by omega
          obtain ⟨q, hq⟩ : ∃ q, k = q + 1 := ⟨k - 1, by omega⟩
          have hqi : (k : Int) - 1 = (q : Int) := by omega
          have hwq : IntKind.i64.wrap (q : Int) = (q : Int) := by rw [IntKind.wrap_i64]; omega
          have hqN : q < N := by omega
          have hqNi : (q : Int) < (N : Int) := by omega
          have hq0 : (0 : Int) ≤ (q : Int) := by omega
          obtain ⟨b, off, x, rfl, hb, hx, wx, hcx⟩ := HOR.out.get hlt
          obtain ⟨b', off', y, e9, hb', hy, wy, hcy⟩ := HOR.out.get hqN
          cases e9
          obtain ⟨hxb, hyb⟩ := And.intro (HOM.out x (List.mem_of_getElem? hx)) (HOM.out y (List.mem_of_getElem? hy))
          obtain ⟨u, rfl⟩ : ∃ u : Nat, x = (u : Int) := ⟨x.toNat, by omega⟩
          obtain ⟨v, rfl⟩ : ∃ v : Nat, y = (v : Int) := ⟨y.toNat, by omega⟩
          have hu : u < N := by omega
          have hv : v < N := by omega
          obtain ⟨bp, op, xu, rfl, hbp, hxu, wxu, hcu⟩ := (HP.out.ext HXR.out).get hu
          obtain ⟨bp', op', xv, e9, hbp', hxv, wxv, hcv⟩ := (HP.out.ext HXR.out).get hv
          cases e9
          have hbe : xu < xv ∨ (xu = xv ∧ v < u) := by
            have h1 := List.pairwise_iff_getElem.1 HST.out q k (by rw [HOL.out]; omega) (by rw [HOL.out]; omega) (by omega)
            rw [(List.getElem?_eq_some_iff.1 hx).2, (List.getElem?_eq_some_iff.1 hy).2] at h1
            unfold beforeO vO at h1
            rw [Int.toNat_natCast, Int.toNat_natCast, List.getD_eq_getElem?_getD, List.getD_eq_getElem?_getD, hxu, hxv] at h1
            simp only [Option.getD_some] at h1
            omega
          have HBE := hide hbe
          have hui : (u : Int) < (N : Int) := by omega
          have hvi : (v : Int) < (N : Int) := by omega
          have hNu : ¬ (N : Int) ≤ (u : Int) := by omega
          have hNv : ¬ (N : Int) ≤ (v : Int) := by omega
          clear hx hy hxu hxv hbe hq hxb hyb
          go_upto_region 14 with fail
          go_cut [174] (fun s174 wx => s174 = .bool false ∧ Ext wr wx)
          case first => as_aux_lemma =>
            have dx := after_cell hcx
            have dy := after_cell hcy
            have du := after_cell hcu
            have dv := after_cell hcv
            have hbe := HBE.out
            have hu0 : ¬ (u : Int) < 0 := by omega
            have hv0 : ¬ (v : Int) < 0 := by omega
            clear hcx hcy hcu hcv
            by_cases he : xu = xv
            · have heb : (xu == xv) = true := by simpa using he
              have hvu : ¬ (u : Int) < (v : Int) := by omega
              have hvun : ¬ u < v := by omega
              have hle : ¬ xv < xu := by omega
              clear he hbe HBE
              simp only [List.append_eq, List.cons_append, List.nil_append]
              refine wp_region_ext (by as_aux_lemma => kernel_rfl) (by as_aux_lemma => kernel_rfl) ?_
              repeat (go_big_quiet_step (fail))
              refine wpQuiet_nil ?_
              rintro w9 ⟨⟨w9, hE9⟩, rfl⟩
              go_wp2
              go_meet
              case rel => exact ⟨by (first | rfl | (simp; done) | (simp; omega)), hE9⟩
            · have heb : (xu == xv) = false := by simpa using he
              have hle : ¬ xv < xu := by omega
              clear he hbe HBE
              simp only [List.append_eq, List.cons_append, List.nil_append]
              refine wp_region_ext (by as_aux_lemma => kernel_rfl) (by as_aux_lemma => kernel_rfl) ?_
              repeat (go_big_quiet_step (fail))
              refine wpQuiet_nil ?_
              rintro w9 ⟨⟨w9, hE9⟩, rfl⟩
              go_wp2
              go_meet
              case rel => exact ⟨by (first | rfl | (simp; done) | (simp; omega)), hE9⟩
          case rest => as_aux_lemma =>
            obtain ⟨rfl, hE9⟩ := hcut
            go_wp2
            go_roundw
            case rel => exact ⟨k + 1, by omega, by omega, by go_num, HER.out.trans hE9⟩
            case measure => (simp [intOf] <;> omega)
        · have hki : ¬ (k : Int) < (N : Int) := by omega
          have hmk := run_make_ints N (by omega)
          obtain ⟨w6, rfl⟩ : ∃ w6' : World, w6' = wr := ⟨_, rfl⟩
          have HX6 := hide HXR.out
          have HO6 := hide HOR.out
          clear HST HOM HOL HXR HOR HER
          go_wp2_with fail
          clear hmk hki hlt hk1 hkN
          obtain ⟨w7, hw7⟩ : ∃ w7 : World, w7 = w6.alloc (.cells (zeroRow N) 3) := ⟨_, rfl⟩
          obtain ⟨FA, hFA⟩ : ∃ FA : Nat, FA = w6.heap.size := ⟨_, rfl⟩
          have HF7 := hide (show Ints w7 (some ⟨FA, 0, none⟩) N N (List.replicate N 0) from by rw [hw7, hFA]; exact (OwI.zeros w6 (base := 0) N (by omega) (Nat.zero_le _)).ints)
          have hE7 : Ext w6 w7 := by rw [hw7]; exact Ext.one _ _
          have HX7 := hide (HX6.out.trans hE7)
          have HO7 := hide (HO6.out.ext hE7)
          rw [← hw7, ← hFA]
          clear hw7 hE7 hFA HO6
          refine (iPair_any P N pc' xs _ N N (List.replicate N 0) w7 (HP.out.ext HX7.out) HF7.out).mono ?_
          rintro e w8 ⟨X, xc, rfl, hoX, hE8⟩
          have HX8 := hide (HX7.out.trans hE8)
          have HO8 := hide (HO7.out.ext hE8)
          have HF8 := hide (HF7.out.ext hE8)
          have HXX := hide hoX.ints
          rw [HFR.out.len] at HXX ⊢
          rw [HFR.out.ok]
          have HXX := hide HXX.out
          clear hoX hE8 HO7 HF7
          go_wp2
          go_loopw [15, 16] (fun ws ks wr => ∃ j : Nat, 2 * j + 2 ≤ N ∧ ws = .int .i64 (waysF N j : Int) ∧ ks = .int .i64 ((N - 1 - 2 * j : Nat) : Int) ∧ w8 = wr) (fun _ ks _ => (intOf ks).toNat)
          case atStart => exact ⟨0, by omega, rfl, congrArg (Value.int .i64) (by omega), rfl⟩
          case round => as_aux_lemma =>
            obtain ⟨j, hj, rfl, rfl, rfl⟩ := hrel
            by_cases hlt : 2 * j + 4 ≤ N
            · obtain ⟨kk, hkk⟩ : ∃ kk, N - 1 - 2 * j = kk := ⟨_, rfl⟩
              rw [hkk]
              have hgt : (1 : Int) < (kk : Int) := by omega
              have hsm := waysF_small N (by omega) (j + 1) (by omega)
              have hst : waysF N (j + 1) = waysF N j * kk := by rw [← hkk]; rfl
              have HM := hide (show wrap64 ((waysF N j : Int) * (kk : Int)) = (waysF N (j + 1) : Int) by
                rw [← Int.natCast_mul, ← hst]; unfold wrap64; omega)
              have hk2 : ((N - 1 - 2 * (j + 1) : Nat) : Int) = (kk : Int) - 2 := by omega
              have HK2 := hide hk2
              clear hst hsm hk2
              go_wp2
              go_roundw
              case rel => exact ⟨j + 1, by omega, congrArg (Value.int .i64) HM.out, congrArg (Value.int .i64) HK2.out.symm, trivial⟩
              case measure => (simp [intOf] <;> omega)
            · have hle1 : ¬ (1 : Int) < ((N - 1 - 2 * j : Nat) : Int) := by omega
              have hwy : waysF N j = dfac N := by rw [show j = N / 2 - 1 by omega]; exact waysF_end N (by omega) (by omega) hN2
              rw [hwy]
              clear hwy
              go_upto_region 23 with fail
              clear hle1 hlt hj
              go_cut [227] (fun s227 wx => s227 = .bool false ∧ Ext w8 wx)
              case first => as_aux_lemma =>
                obtain ⟨b, off, x, rfl, hb, hx, wx, hcx⟩ := HO8.out.get (k := 0) (by omega)
                obtain ⟨b', off', y, e9, hb', hy, wy, hcy⟩ := HO8.out.get (k := 1) (by omega)
                cases e9
                have hxb := orderO_mem xs N x (List.mem_of_getElem? hx)
                obtain ⟨u, rfl⟩ : ∃ u : Nat, x = (u : Int) := ⟨x.toNat, by omega⟩
                have hu : u < N := by omega
                obtain ⟨bx, ox, z, rfl, hbx, hz, wz, hcz⟩ := HXX.out.get hu
                have hzy : z = y := by
                  have h1 := HFR.out.fst
                  rw [List.getD_eq_getElem?_getD (l := orderO xs N), hx, List.getD_eq_getElem?_getD (l := orderO xs N), hy] at h1
                  simp only [Option.getD_some, Int.toNat_natCast] at h1
                  rw [List.getD_eq_getElem?_getD, hz] at h1
                  exact h1
                subst hzy
                rw [Nat.add_zero] at hcx
                have d0 := after_cell hcx
                have d1 := after_cell hcy
                have dz := after_cell hcz
                have hui : (u : Int) < (N : Int) := by omega
                have h0i : (0 : Int) < (N : Int) := by omega
                have h1i : (1 : Int) < (N : Int) := by omega
                have h0n : 0 < N := by omega
                have h1n : 1 < N := by omega
                have CCN := hide (fun (e : After w8) => show Calls Try.prog 15 #[.slice P N pc', .slice (some ⟨FA, 0, none⟩) N N] e.val fun r w'' => r = .returned (.int .i64 (dfac N : Int)) ∧ Ext e.val w'' from by
                  have := iCount_any P N pc' xs _ N N (List.replicate N 0) e.val (HP.out.ext (HX8.out.trans e.property)) (HF8.out.ext e.property)
                  rwa [HFR.out.cnt] at this)
                have CFL := hide (fun (e : After w8) => iFloatOf_any P N pc' xs _ N xc _ e.val (HP.out.ext (HX8.out.trans e.property)) (HXX.out.ext e.property))
                have CLF := hide (fun (e : After w8) => iLeast_any P N pc' xs _ N N (List.replicate N 0) e.val (HP.out.ext (HX8.out.trans e.property)) (HF8.out.ext e.property))
                rw [HFR.out.flt] at CFL
                obtain ⟨fl, hfl⟩ : ∃ fl, leastP xs (List.replicate N 0) = fl := ⟨_, rfl⟩
                rw [hfl] at CFL CLF
                have CFL := hide CFL.out
                have CLF := hide CLF.out
                clear hx hy hz hcx hcy hcz hfl hxb
                refine wp_region_ext (by as_aux_lemma => kernel_rfl) (by as_aux_lemma => kernel_rfl) ?_
                repeat (go_big_quiet_step ((first | (go_at_call 15; with_reducible exact after_call (CCN.out _)) | (go_at_call 20; with_reducible exact after_call (CFL.out _)) | (go_at_call 16; with_reducible exact after_call (CLF.out _)))))
                refine wpQuiet_nil ?_
                rintro w9 ⟨⟨w9, hE9⟩, rfl⟩
                go_wp2
                go_meet
                case rel => exact ⟨by (first | rfl | (simp; done)), hE9⟩
              case rest => as_aux_lemma =>
                obtain ⟨rfl, hE9⟩ := hcut
                obtain ⟨w9, rfl⟩ : ∃ w9, w9 = wc := ⟨_, rfl⟩
                have HX9 := hide (HE1.out.trans (HX8.out.trans hE9))
                clear hE9 HXX HF8 HO8 HX8 HX7 HX6 HX5 HX4 HX3 HX2
                go_wp2_with fail
                refine (makeNum_any A n c bs 46 w9 (HB.out.ext HX9.out) (by omega)).mono ?_
                rintro e w10 ⟨Y, rfl, hY, hE10⟩
                have HX10 := hide (HX9.out.trans hE10)
                obtain ⟨r4, hr4⟩ : ∃ r4, Y % 4 = r4 := ⟨_, rfl⟩
                have hr4b : r4 < 4 := by omega
                have hyi : (Y : Int) % 4 = (r4 : Int) := by omega
                obtain ⟨M, hM⟩ : ∃ M : Nat, M = 2 * (1 + r4) := ⟨_, rfl⟩
                have hMi : 2 * (1 + (r4 : Int)) = (M : Int) := by omega
                have hM2 : M % 2 = 0 := by omega
                have hM8 : 2 ≤ M ∧ M ≤ 8 := by omega
                clear hE10 hr4 hM
                go_wp2_with fail
                clear hMi hyi hr4b
                refine (makeOf_any A n c bs 40 M w10 (HB.out.ext HX10.out) (by omega) (by omega) (by omega)).mono ?_
                rintro e w11 ⟨ts, B, d, ht, rfl, hoB, hE11⟩
                obtain ⟨w12, hw12⟩ : ∃ w12 : World, w12 = w11.alloc (.cells #[.int .i64 (M : Int), .slice B M d] 33) := ⟨_, rfl⟩
                have hE12 : Ext w11 w12 := by rw [hw12]; exact Ext.one _ _
                obtain ⟨K, hK⟩ : ∃ K, K = w11.heap.size := ⟨_, rfl⟩
                have C0 := hide (show w12.cell? ⟨K, 0, none⟩ = some (.int .i64 (M : Int)) by rw [hw12, hK]; simp)
                have C1 := hide (show w12.cell? ⟨K, 1, none⟩ = some (.slice B M d) by rw [hw12, hK]; simp)
                have HI := hide (hoB.ints.ext hE12)
                have HX12 := hide (HX10.out.trans (hE11.trans hE12))
                have HT := hide ht
                have HTL := hide (show ts.length = M by have := tourOk_size ht; omega)
                have HK := hide hK
                have HW12 := hide hw12
                clear hoB hE11 hE12 ht hw12 hK HX10 HX9
                go_wp2_with fail
                rw [← HK.out, ← HW12.out]
                refine (makeNum_any A n c bs 48 w12 (HB.out.ext HX12.out) (by omega)).mono ?_
                rintro e w13 ⟨Z, rfl, hZ, hE13⟩
                obtain ⟨R, hR⟩ : ∃ R, Z % 8 = R := ⟨_, rfl⟩
                have hR8 : R < 8 := by omega
                have hzi : (Z : Int) % 8 = (R : Int) := by omega
                have HX13 := hide hE13
                have k0 := hE13.get C0.out
                have k1 := hE13.get C1.out
                clear hE13 hR
                go_wp2_with fail
                refine (iPlay_any (M : Int) B M d ts (R : Int) w13 ⟨by omega, by omega⟩ (HI.out.ext HX13.out)).mono ?_
                rintro e w14 ⟨mid, PA, pcap, G, g, rfl, hoPt, hoG, hm1, hm2, hE14⟩
                rw [hzi]
                have hpo : playOk (M : Int) ts (R : Int) := ⟨HT.out, by omega, by omega, by omega⟩
                have e1 : playPts (M : Int) ts (R : Int) = (stW ts R).1.pts := by unfold playPts; rw [if_pos hpo, Int.toNat_natCast]
                have e2 : playRds (M : Int) ts (R : Int) = (stW ts R).1.rds := by unfold playRds; rw [if_pos hpo, Int.toNat_natCast]
                obtain ⟨pts, hpts⟩ : ∃ pts, (stW ts R).1.pts = pts := ⟨_, rfl⟩
                obtain ⟨rds, hrds⟩ : ∃ rds, (stW ts R).1.rds = rds := ⟨_, rfl⟩
                have hln := stW_len ts R
                have hsum := stW_sum HT.out R
                have hpt := stW_pts (xs := ts) R
                rw [hpts, hrds, HTL.out] at hln
                rw [hpts, hrds, HTL.out] at hsum
                rw [hpts] at hpt
                rw [e1, hpts] at hoPt ⊢
                rw [e2, hrds] at hoG ⊢
                obtain ⟨Rn, hRn⟩ : ∃ Rn, rds.length = Rn := ⟨_, rfl⟩
                rw [hln.1] at hoPt ⊢
                rw [hRn] at hoG hln hsum ⊢
                have hRnR : Rn ≤ R := hln.2.2.1
                have HX14 := hide (HX12.out.trans (HX13.out.trans hE14))
                have HT14 := hide (HX13.out.trans hE14)
                have HPT := hide hoPt.ow.ints
                have HGD := hide hoG.grid
                have HC0 := hide (hE14.get k0)
                have HC1 := hide (hE14.get k1)
                have HLS := hide (sw_last ts R)
                rw [hpts, hrds, hRn] at HLS
                have HLS := hide HLS.out
                have HRD := hide (fun i (hi : i < Rn) => sw_rnd (xs := ts) (n := M) (r := R) (i := i) HTL.out (by rw [hrds, hRn]; exact hi))
                rw [hrds] at HRD
                have HRD := hide HRD.out
                have HPB := hide (fun x hx => hpt x hx)
                obtain ⟨S, hS⟩ : ∃ S : Nat, pts.sum = (S : Int) := ⟨pts.sum.toNat, by have := Int.mul_nonneg (Int.natCast_nonneg Rn) (Int.natCast_nonneg M); omega⟩
                rw [hS] at hsum
                have hRM : (Rn : Int) * (M : Int) = 2 * (S : Int) := hsum.symm
                have hS28 : S ≤ 28 := by
                  have h1 : Rn * M ≤ 7 * 8 := Nat.mul_le_mul (by omega) (by omega)
                  have h2 : ((Rn * M : Nat) : Int) = 2 * (S : Int) := by rw [Int.natCast_mul]; exact hRM
                  omega
                have HS := hide hS
                clear hoPt hoG hE14 hpo hsum hpt hln e1 e2 hS k0 k1 hpts
                clear hrds
                go_upto_region 28 with fail
                go_cut [265] (fun s265 wx => s265 = .bool false ∧ Ext w14 wx)
                case first => as_aux_lemma =>
                  have d0 := after_cell HC0.out
                  have CSU := hide (fun (e : After w14) => show Calls Try.prog 24 #[.slice PA M pcap] e.val fun r w'' => r = .returned (.int .i64 (S : Int)) ∧ Ext e.val w'' from by
                    have := lsum_any PA M pcap pts e.val (HPT.out.ext e.property) (by omega) (fun x hx => by have := HPB.out x hx; omega)
                    rw [HS.out] at this
                    exact this.mono fun _ _ h => ⟨h.1, h.2 ▸ Ext.refl _⟩)
                  have hnR : ¬ (R : Int) < (Rn : Int) := by omega
                  have hw2 : IntKind.i64.wrap (2 * (S : Int)) = 2 * (S : Int) := by rw [IntKind.wrap_i64]; omega
                  clear HS HPB HRD HLS
                  refine wp_region_ext (by as_aux_lemma => kernel_rfl) (by as_aux_lemma => kernel_rfl) ?_
                  repeat (go_big_quiet_step ((first | (go_at_call 24; with_reducible exact after_call (CSU.out _)))))
                  refine wpQuiet_nil ?_
                  rintro w15 ⟨⟨w15, hE15⟩, rfl⟩
                  go_wp2
                  go_meet
                  case rel => exact ⟨by (first | rfl | (simp; done) | (simp; omega)), hE15⟩
                case rest => as_aux_lemma =>
                  obtain ⟨rfl, hE15⟩ := hcut
                  obtain ⟨w15, rfl⟩ : ∃ w15, w15 = wc := ⟨_, rfl⟩
                  have d0 := hE15.get HC0.out
                  have d1 := hE15.get HC1.out
                  have hz15 := hE15.size
                  have HE15 := hide hE15
                  have hmk := run_make_ints M (by omega)
                  have e0 := (Ext.one w15 (.cells (zeroRow M) 3)).get d0
                  have HM0 := hide (show OwI ((w15.alloc (.cells (zeroRow M) 3)).alloc (.cells (zeroRow M) 3)) w14.heap.size (some ⟨w15.heap.size, 0, none⟩) M M (List.replicate M 0) from (OwI.zeros w15 M (by omega) hz15).ext (Ext.one _ _))
                  have HW0 := hide (show OwI ((w15.alloc (.cells (zeroRow M) 3)).alloc (.cells (zeroRow M) 3)) w14.heap.size (some ⟨w15.heap.size + 1, 0, none⟩) M M (List.replicate M 0) from by
                    have := OwI.zeros (w15.alloc (.cells (zeroRow M) 3)) (base := w14.heap.size) M (by omega) (by simp; omega)
                    rwa [World.size_alloc] at this)
                  have HE16 := hide (show Ext w14 ((w15.alloc (.cells (zeroRow M) 3)).alloc (.cells (zeroRow M) 3)) from (hE15.alloc _).alloc _)
                  clear hE15 d1
                  go_wp2
                  obtain ⟨w16, hw16⟩ : ∃ w16 : World, w16 = (w15.alloc (.cells (zeroRow M) 3)).alloc (.cells (zeroRow M) 3) := ⟨_, rfl⟩
                  rw [← hw16] at HM0 HW0 HE16 ⊢
                  obtain ⟨X, hX⟩ : ∃ X, X = w15.heap.size := ⟨_, rfl⟩
                  rw [← hX] at HM0 HW0 ⊢
                  have hXl : w14.heap.size ≤ X := by omega
                  clear hw16 hX d0 e0 hmk
                  go_loopw [274] (fun i wr => ∃ k : Nat, k ≤ Rn ∧ i = .int .i64 (k : Int) ∧ Hid (OwI wr w14.heap.size (some ⟨X, 0, none⟩) M M (stW ts k).1.met) ∧ Hid (OwI wr w14.heap.size (some ⟨X + 1, 0, none⟩) M M (stW ts k).1.pts) ∧ Hid (Ext w14 wr)) (fun i _ => Rn - (intOf i).toNat)
                  case atStart => exact ⟨0, Nat.zero_le _, rfl, hide (by simpa [stW, HTL.out] using HM0.out), hide (by simpa [stW, HTL.out] using HW0.out), HE16⟩
                  case round => as_aux_lemma =>
                    obtain ⟨q, hq, rfl, HMT, HWT, HER⟩ := hrel
                    obtain ⟨w17, rfl⟩ : ∃ w17 : World, w17 = wr := ⟨_, rfl⟩
                    have v0 := HER.out.get HC0.out
                    by_cases hlt : q < Rn
                    · have hqi : (q : Int) < (Rn : Int) := by omega
                      obtain ⟨p, hp, hF, hnp, hnm⟩ := HRD.out q hlt
                      obtain ⟨b, off, RB, rd, r, rfl, hb, hx, hc, hir⟩ := HGD.out.get hlt
                      rw [hp] at hx
                      obtain rfl : p = r := Option.some.inj hx
                      rw [hF.pl] at hc hir
                      have hc17 := HER.out.get hc
                      have HIR := hide hir
                      have HF := hide hF
                      have HNX := hide (And.intro hnp hnm)
                      clear hp hx hir hF hnp hnm hb hc
                      generalize (stW ts q).1.pts = pq at *
                      generalize (stW ts q).1.met = mq at *
                      go_wp2
                      go_loopw [285] (fun i wr => ∃ k : Nat, k ≤ M ∧ i = .int .i64 (k : Int) ∧ Hid (OwI wr w14.heap.size (some ⟨X, 0, none⟩) M M (metP p mq k)) ∧ Hid (OwI wr w14.heap.size (some ⟨X + 1, 0, none⟩) M M (ptsP ts p pq k)) ∧ Hid (Ext w14 wr)) (fun i _ => M - (intOf i).toNat)
                      case atStart => exact ⟨0, Nat.zero_le _, rfl, hide (by rw [metP_zero]; exact HMT.out), hide (by rw [ptsP_zero]; exact HWT.out), HER⟩
                      case round => as_aux_lemma =>
                        clear v0
                        obtain ⟨a, ha, rfl, HMA, HWA, HEA⟩ := hrel
                        by_cases hal : a < M
                        · have hai : (a : Int) < (M : Int) := by omega
                          have u0 := HEA.out.get HC0.out
                          obtain ⟨b1, m, g1, hpa, hbM, hba, hpb, hpg, hmg, hm8, hbit, hqg, hq100⟩ := HF.out.at' a hal
                          obtain ⟨b9, o9, bi, rfl, hb9, hbi, wbi, hcb⟩ := (HIR.out.ext HEA.out).get hal
                          rw [hpa] at hbi
                          obtain rfl : (b1 : Int) = bi := Option.some.inj hbi
                          obtain ⟨b8, o8, ai, e8, hb8, hai2, wai, hca⟩ := (HIR.out.ext HEA.out).get hbM
                          cases e8
                          rw [hpb] at hai2
                          obtain rfl : (a : Int) = ai := Option.some.inj hai2
                          obtain ⟨bm, om, mk, e8, _, _, hmk2, wmk, hcm, hfm⟩ := HMA.out.get hal
                          cases e8
                          rw [metP_get _ _ _ (by rw [HF.out.ml]; exact hal), if_neg (Nat.lt_irrefl _), hmg] at hmk2
                          obtain rfl : (m : Int) = mk := Option.some.inj hmk2
                          have hbi2 : (b1 : Int) < (M : Int) := by omega
                          have hbge : ¬ (M : Int) ≤ (b1 : Int) := by omega
                          have hbneg : ¬ (b1 : Int) < 0 := by omega
                          have hbne : ((b1 : Int) == (a : Int)) = false := by simp; omega
                          have hbits : bits .and .i64 ((m : Int) / 2 ^ b1) 1 = 0 := by rw [and_bit2 (by omega) (by omega), bitAt_nat, hbit]; rfl
                          have hb64 : b1 < 64 := by omega
                          have HO1 := hide (add_shl (b := b1) (m := m) (by omega) hm8)
                          have HBT := hide hbit
                          have hp2 : (2 : Nat) ^ b1 ≤ 128 := (shl_natD b1 (by omega)).2
                          simp only [Nat.zero_add] at hcm hfm
                          have HMS := hide (show OwI (wr.setCell ⟨X, a, none⟩ (.int .i64 ((m + 2 ^ b1 : Nat) : Int))).drew w14.heap.size (some ⟨X, 0, none⟩) M M (metP p mq (a + 1)) from by
                            have h9 := HMA.out.store rfl hal (x := ((m + 2 ^ b1 : Nat) : Int)) (nat_i64D (by omega))
                            rw [Nat.zero_add] at h9
                            have h8 := metP_succ (p := p) (met := mq) (k := a) (by rw [HF.out.ml]; exact hal)
                            rw [hmg, hpg, Int.toNat_natCast, show (m : Int) + 2 ^ b1 = ((m + 2 ^ b1 : Nat) : Int) by simp] at h8
                            rw [← h8]
                            exact h9.ext (Ext.refl _).drew)
                          have HWS := hide (show OwI (wr.setCell ⟨X, a, none⟩ (.int .i64 ((m + 2 ^ b1 : Nat) : Int))).drew w14.heap.size (some ⟨X + 1, 0, none⟩) M M (ptsP ts p pq a) from
                            (HWA.out.grown (grown_setCell _ _ _) (.inl (by simp))).ext (Ext.refl _).drew)
                          have HES := hide (show Ext w14 (wr.setCell ⟨X, a, none⟩ (.int .i64 ((m + 2 ^ b1 : Nat) : Int))).drew from
                            (HEA.out.grown (grown_setCell _ _ _) (fun k hk => by cases hk; exact hXl)).drew)
                          have HPG := hide hpg
                          have HQG := hide hqg
                          clear hbi hai2 hmk2 wbi wai wmk hb9 hb8 hpa hpb hpg hmg hbit hqg hp2
                          go_upto_region 42 with fail
                          go_region
                          all_goals
                            rw [HO1.out]
                            obtain ⟨w18, hw18⟩ : ∃ w18 : World, w18 = (wr.setCell ⟨X, a, none⟩ (.int .i64 ((m + 2 ^ b1 : Nat) : Int))).drew := ⟨_, rfl⟩
                            rw [← hw18] at HMS HWS HES ⊢
                            clear hw18 hbits hcm hfm hcb hca u0
                            have x0 := HES.out.get HC0.out
                            have x1 := HES.out.get HC1.out
                            obtain ⟨bp, op, pk, e8, _, _, hpk, _, hcp, hfp⟩ := HWS.out.get hal
                            cases e8
                            rw [ptsP_get _ _ _ _ (by rw [HF.out.ql]; exact hal), if_neg (fun h => Nat.lt_irrefl _ h.1), HQG.out] at hpk
                            obtain rfl : (g1 : Int) = pk := Option.some.inj hpk
                            simp only [Nat.zero_add] at hcp hfp
                            have CB := hide (iDoes_any M B d ts a b1 w18 HT.out (HI.out.ext (HT14.out.trans HES.out)) hal hbM)
                            clear hpk
                            by_cases hbt : bts ts a b1
                            · have HPS := hide (ptsP_yes (xs := ts) (p := p) (pts := pq) (k := a) (by rw [HF.out.ql]; exact hal) (by rw [HPG.out, Int.toNat_natCast]; exact hbt))
                              rw [HQG.out] at HPS
                              rw [decide_eq_true hbt] at CB
                              clear hbt
                              go_wp2_with (go_at_call 25; refine CB.out.mono ?_; rintro e w19 ⟨rfl, hE19⟩; have hcpx := hE19.get hcp; have hfpx := (hE19.frozen (p := ⟨X + 1, a, none⟩) (World.block_lt_of_cell? w18 _ hcp)).trans hfp; have HE19 := hide hE19; clear hE19)
                              have HPZ := hide (show OwI (w19.setCell ⟨X + 1, a, none⟩ (.int .i64 ((g1 : Int) + 1))) w14.heap.size (some ⟨X + 1, 0, none⟩) M M (ptsP ts p pq (a + 1)) by
                                have h9 := (HWS.out.ext HE19.out).store rfl hal (x := (g1 : Int) + 1) ⟨by omega, by omega⟩
                                rw [Nat.zero_add, HPS.out] at h9
                                exact h9)
                              have HMZ := hide (show OwI (w19.setCell ⟨X + 1, a, none⟩ (.int .i64 ((g1 : Int) + 1))) w14.heap.size (some ⟨X, 0, none⟩) M M (metP p mq (a + 1)) from (HMS.out.ext HE19.out).grown (grown_setCell _ _ _) (.inl (by simp)))
                              have HEZ := hide (show Ext w14 (w19.setCell ⟨X + 1, a, none⟩ (.int .i64 ((g1 : Int) + 1))) from (HES.out.trans HE19.out).grown (grown_setCell _ _ _) (fun k hk => by cases hk; exact Nat.le_succ_of_le hXl))
                              go_roundw
                              case rel => exact ⟨a + 1, by omega, by go_num, HMZ, HPZ, HEZ⟩
                              case measure => (simp [intOf] <;> omega)
                            · have HPS := hide (ptsP_no (xs := ts) (p := p) (pts := pq) (k := a) (by rw [HF.out.ql]; exact hal) (by rw [HPG.out, Int.toNat_natCast]; exact hbt))
                              rw [decide_eq_false hbt] at CB
                              clear hbt
                              go_wp2_with (go_at_call 25; refine CB.out.mono ?_; rintro e w19 ⟨rfl, hE19⟩; have HE19 := hide hE19; clear hE19)
                              go_roundw
                              case rel => exact ⟨a + 1, by omega, by go_num, hide (HMS.out.ext HE19.out), hide (by rw [← HPS.out]; exact HWS.out.ext HE19.out), hide (HES.out.trans HE19.out)⟩
                              case measure => (simp [intOf] <;> omega)
                        · have hae : a = M := by omega
                          have HMN := hide (show OwI wr w14.heap.size (some ⟨X, 0, none⟩) M M (stW ts (q + 1)).1.met by rw [HNX.out.2, ← hae]; exact hae ▸ HMA.out)
                          have HWN := hide (show OwI wr w14.heap.size (some ⟨X + 1, 0, none⟩) M M (stW ts (q + 1)).1.pts by rw [HNX.out.1, ← hae]; exact hae ▸ HWA.out)
                          have hai : ¬ (a : Int) < (M : Int) := by omega
                          clear hae
                          go_wp2
                          go_roundw
                          case rel => exact ⟨q + 1, by omega, by go_num, HMN, HWN, HEA⟩
                          case measure => (simp [intOf] <;> omega)
                    · have hqe : q = Rn := by omega
                      have hqi : ¬ (q : Int) < (Rn : Int) := by omega
                      rw [hqe] at HMT HWT
                      rw [HLS.out.2.1] at HMT
                      rw [HLS.out.1] at HWT
                      clear hqe
                      have CP := hide (iPair_any PA M pcap pts _ M M _ w17 (HPT.out.ext HER.out) HMT.out.ints)
                      have HOR := hide HLS.out.2.2
                      generalize pairB pts (stW ts R).1.met = more at *
                      go_wp2_with fail
                      refine CP.out.mono ?_
                      rintro e w20 ⟨L2, lc2, rfl, hoL2, hE20⟩
                      have CS := hide (lsame_any _ M M pts PA M pcap pts w20 (HWT.out.ints.ext hE20) (HPT.out.ext (HER.out.trans hE20)))
                      rw [decide_eq_true rfl] at CS
                      have HEN := hide (HX14.out.trans (HER.out.trans hE20))
                      clear hoL2 hE20
                      rcases HOR.out with hor | hor
                      · subst hor
                        go_wp2_with (go_at_call 26; refine CS.out.mono ?_; rintro e w21 ⟨rfl, rfl⟩)
                        all_goals (go_ret; exact ⟨by first | rfl | simp, HEN.out⟩)
                      · subst hor
                        go_wp2_with (go_at_call 26; refine CS.out.mono ?_; rintro e w21 ⟨rfl, rfl⟩)
                        all_goals (go_ret; exact ⟨by first | rfl | simp, HEN.out⟩)

end Go.Proofs.Ytbaljgdepicigaa
