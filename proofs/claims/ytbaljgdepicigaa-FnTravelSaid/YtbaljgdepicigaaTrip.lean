/-
  Contracts of the functions on places and trips.
-/
import Derived.Test.YtbaljgdepicigaaBase
import Derived.Test.YtbaljgdepicigaaMathA
import Derived.Test.YtbaljgdepicigaaMathD
import Derived.Test.YtbaljgdepicigaaLib
import Derived.Test.YtbaljgdepicigaaAid
import Derived.Test.YtbaljgdepicigaaGrid
import Derived.Test.YtbaljgdepicigaaLibF
import Derived.Test.YtbaljgdepicigaaMathT
import Derived.Test.YtbaljgdepicigaaDist
import Derived.Test.YtbaljgdepicigaaPlan
import Derived.Test.YtbaljgdepicigaaPlanB
namespace Go.Proofs.Ytbaljgdepicigaa
open Go.RowKit
set_option linter.unusedVariables false

-- impl.places
theorem iPlaces_any (m : Int) (A : Option Addr) (n c : Nat) (rows : List (List Int)) (j : Nat) (w : World) (h : Grid w A n c rows) (hp : planOk m rows) (hj : (j : Int) < m) :
    Calls Try.prog 124 #[.slice A n c, .int .i64 (j : Int)] w (RetI w (placesOf rows j)) := by
  have hle := h.le
  have hmx := h.max
  have HL := hide h.len
  have hm10 : 2 ≤ m ∧ m ≤ 10 := hp.1.1
  have h36 : n ≤ 36 := by have := hp.2.1; have := HL.out; omega
  have HP := hide hp; clear hp
  go_enter Try.func124, Try.ntmps124
  go_wp2
  go_loopw [5, 10] (fun o i wr => ∃ (k : Nat) (Ao : Option Addr) (co : Nat), k ≤ n ∧ i = .int .i64 k ∧ o = .slice Ao k co ∧ OwI wr w.heap.size Ao k co (placesOf (rows.take k) j) ∧ Ext w wr) (fun _ i _ => n - (intOf i).toNat)
  case atStart => exact ⟨0, none, 0, Nat.zero_le _, rfl, rfl, OwI.nil _ _, Ext.refl _⟩
  case round =>
    obtain ⟨k, Ao, co, hk, rfl, rfl, ho, hE⟩ := hrel
    by_cases hlt : k < n
    · obtain ⟨b, off, B, d, r, rfl, hb, hx, hc, hi⟩ := (h.ext hE).get hlt
      have hr := List.mem_of_getElem? hx
      have hrl := plan_row HP.out hr
      have hjr : j < r.length := by omega
      have hrd := hi.le
      have hrm := hi.rd.max
      have HIR := hide hi
      obtain ⟨b1, o1, x, rfl, hb1, hx1, wx, hc1⟩ := hi.get hjr
      have hxb := plan_at HP.out hr (List.mem_of_getElem? hx1)
      have hob := opp_bound hxb.1 hxb.2
      obtain ⟨o, ho'⟩ : ∃ o : Nat, opp x = (o : Int) := ⟨(opp x).toNat, by omega⟩
      have hox : (o : Int) < m := by omega
      have hx2 := hxb.2
      have HX1 := hide hx1; have HO := hide ho'
      have HS := hide (placesOf_snoc j hx)
      have HPL := hide (show placeAt j r = if 0 < x then (j : Int) else opp x by simp [placeAt, List.getD, hx1])
      have HO2 := hide ho; have HE := hide hE
      clear hi hx hx1 hr hrl ho hE ho' hob hxb
      by_cases hpos : 0 < x
      · have HQ := hide (show placeAt j r = (j : Int) by rw [HPL.out, if_pos hpos])
        go_wp2_with (at_builtin; refine push_ints rfl (.tmp 19) (.tmp 21) rfl rfl (HO2.out.ext (Ext.one _ _)) (some ⟨_, 0, none⟩) 1 1 [(j : Int)] rfl (ints_lit1 _ (base := 0) (j : Int) ⟨by omega, by omega⟩ (Nat.zero_le _)).ints (by omega) (by have := HE.out.size; simp; omega) ?_; intro B1 d1 w3 hb3 hg3 hat3)
        go_roundw
        case rel =>
          refine ⟨k + 1, B1, d1, by omega, by go_num, rfl, by rw [HS.out, HQ.out]; exact hb3, (HE.out.alloc _).grown hg3 (fun q hq => (HO2.out.block q hq).1)⟩
        case measure => (simp [intOf] <;> omega)
      · have HQ := hide (show placeAt j r = (o : Int) by rw [HPL.out, if_neg hpos, HO.out])
        go_wp2_with (first | (go_at_call 177; refine (opponent_q _ _ _ r j x o _ HIR.out HX1.out (by omega) HO.out).mono ?_; rintro e w1 ⟨rfl, hq⟩; have hE1 := hq.ext; clear hq) | (at_builtin; refine push_ints rfl (.tmp 23) (.tmp 27) rfl rfl (HO2.out.ext (hE1.trans (Ext.one _ _))) (some ⟨_, 0, none⟩) 1 1 [(o : Int)] rfl (ints_lit1 _ (base := 0) (o : Int) ⟨by omega, by omega⟩ (Nat.zero_le _)).ints (by omega) (by have := HE.out.size; have := hE1.size; simp; omega) ?_; intro B1 d1 w3 hb3 hg3 hat3))
        go_roundw
        case rel =>
          refine ⟨k + 1, B1, d1, by omega, by go_num, rfl, by rw [HS.out, HQ.out]; exact hb3, ((HE.out.trans hE1).alloc _).grown hg3 (fun q hq => (HO2.out.block q hq).1)⟩
        case measure => (simp [intOf] <;> omega)
    · have hke : k = n := by omega
      subst hke
      have HO2 := hide ho; have HE := hide hE; clear hE ho
      go_wp2
      go_ret
      have ho := HO2.out
      rw [take_len HL.out] at ho
      exact RetI.mk rfl ho HE.out
-- impl.PlacesOf
theorem iPlacesOf_any (m : Int) (A : Option Addr) (n c : Nat) (rows : List (List Int)) (k : Int) (w : World) (hm : I64 m) (h : Grid w A n c rows) :
    Calls Try.prog 56 #[.int .i64 m, .slice A n c, .int .i64 k] w (RetI w (places m rows k)) := by
  have HI := hide h; clear h
  by_cases hp : ofPlan m rows k
  · obtain ⟨j, rfl⟩ : ∃ j : Nat, k = (j : Int) := ⟨k.toNat, by have := hp.2; omega⟩
    have hjm : (j : Int) < m := by have := hp.2; omega
    have HP := hide hp
    have HF := hide (show places m rows (j : Int) = placesOf rows j by rw [places, if_pos hp, Int.toNat_natCast])
    clear hp
    go_enter Try.func56, Try.ntmps56
    go_wp2_with (first | (go_at_call 123; refine (isOfPlan_any _ _ _ _ rows _ _ hm HI.out).mono ?_; rw [decide_eq_true HP.out]; rintro e w1 ⟨rfl, hE1⟩) | (go_at_call 124; refine (iPlaces_any m _ _ _ rows j _ (HI.out.ext hE1) HP.out.1 hjm).mono ?_; rintro e w2 ⟨B, d, rfl, hoB, hEB⟩))
    go_ret
    rw [HF.out]
    exact RetI.mk rfl (hoB.mono hE1.size) (hE1.trans hEB)
  · have HP := hide hp
    have HF := hide (show places m rows k = [] by rw [places, if_neg hp])
    clear hp
    go_enter Try.func56, Try.ntmps56
    go_wp2_with (first | (go_at_call 123; refine (isOfPlan_any _ _ _ _ rows _ _ hm HI.out).mono ?_; rw [decide_eq_false HP.out]; rintro e w1 ⟨rfl, hE1⟩))
    go_ret
    rw [HF.out]
    exact RetI.mk rfl (OwI.nil _ _) hE1
-- trip iTrip
theorem iTrip_any (m : Int) (A : Option Addr) (n c : Nat) (rows : List (List Int)) (A2 : Option Addr) (n2 c2 : Nat) (far : List (List Int)) (j : Nat) (w : World) (h : Grid w A n c rows) (h2 : Grid w A2 n2 c2 far)
    (hp : planOk m rows) (hd : distOk m far) (hj : (j : Int) < m) :
    Calls Try.prog 125 #[.slice A n c, .slice A2 n2 c2, .int .i64 (j : Int)] w fun e w' => e = .returned (.int .i64 (tripOf rows far j)) ∧ Ext w w' := by
  have hle := h2.le
  have hmx := h2.max
  have HL := hide h.len
  have HL2 := hide h2.len
  have hm10 : 2 ≤ m ∧ m ≤ 10 := hp.1.1
  have h36 : n ≤ 36 := by have := hp.2.1; have := HL.out; omega
  have hn2 : (n2 : Int) = m := by have := hd.2.1; have := HL2.out; omega
  have HP := hide hp; have HD := hide hd; have HI := hide h; have HI2 := hide h2; clear hp hd h h2
  have HPL := hide (placesOf_len rows j)
  have HB := hide (trip_places HP.out hj)
  go_enter Try.func125, Try.ntmps125
  go_wp2_with fail
  refine (iPlaces_any m _ _ _ rows j _ HI.out HP.out hj).mono ?_; rintro e w1 ⟨B, d, rfl, hoB, hE1⟩
  have hlp : (placesOf rows j).length = n := by rw [HPL.out, HL.out]
  rw [hlp] at hoB ⊢
  clear hlp
  have HOB := hide hoB; have HE1 := hide hE1; clear hoB hE1
  go_wp2_with (at_builtin; refine push_ints rfl (.tmp 14) (.tmp 16) rfl rfl (HOB.out.ext (Ext.one _ _)) (some ⟨_, 0, none⟩) 1 1 [(j : Int)] rfl (ints_lit1 _ (base := 0) (j : Int) ⟨by omega, by omega⟩ (Nat.zero_le _)).ints (by omega) (by have := HE1.out.size; simp; omega) ?_; intro B1 d1 w3 hb3 hg3 hat3)
  have HE3 := hide ((HE1.out.trans (Ext.one _ _)).grown hg3 (fun q hq => (HOB.out.block q hq).1))
  have HR := hide hb3.ints
  have hBd := hb3.le
  have hBm := hb3.max
  clear hb3 hg3 hat3
  generalize hps : placesOf rows j ++ [(j : Int)] = ps at *
  have hpl : ps.length = n + 1 := HR.out.len
  have HPS := hide hps; have HPN := hide hpl; clear hps hpl
  go_loop [7, 8, 19] (fun s a i => ∃ k : Nat, k ≤ n + 1 ∧ i = .int .i64 k ∧ s = .int .i64 (wayTo far ps j k).1 ∧ a = .int .i64 ((wayTo far ps j k).2 : Int)) (fun _ _ i => n + 1 - (intOf i).toNat)
  case atStart => exact ⟨0, Nat.zero_le _, rfl, rfl, rfl⟩
  case round =>
    obtain ⟨k, hk, rfl, rfl, rfl⟩ := hrel
    have hwb := wayTo_bound HD.out hj HB.out k
    by_cases hlt : k < n + 1
    · obtain ⟨b, off, p', rfl, hb, hx, wx, hc⟩ := HR.out.get hlt
      have hin := HB.out p' (List.mem_of_getElem? hx)
      obtain ⟨p, rfl⟩ : ∃ p : Nat, p' = (p : Int) := ⟨p'.toNat, by omega⟩
      obtain ⟨b1, o1, B1, d1, r, rfl, hb1, hr, hc1, hi1⟩ := (HI2.out.ext HE3.out).get (k := (wayTo far ps j k).2) (by omega)
      have hrl : (r.length : Int) = m := by have := (HD.out.2.2.1 r (List.mem_of_getElem? hr)).1; omega
      obtain ⟨b2, o2, y, rfl, hb2, hy, wy, hc2⟩ := hi1.get (k := p) (by omega)
      have hrd := hi1.le
      have hrm := hi1.max
      have HN := hide (show wayTo far ps j (k + 1) = ((wayTo far ps j k).1 + y, p) by
        simp only [wayTo, at2, List.getD, hx, hr, hy, Option.getD_some, Int.toNat_natCast])
      have hyb := at2_bound HD.out (wayTo far ps j k).2 p
      have hya : at2 far (wayTo far ps j k).2 p = y := by simp only [at2, List.getD, hr, hy, Option.getD_some]
      rw [hya] at hyb
      clear hya hx hr hy hi1
      generalize wayTo far ps j k = st at *
      obtain ⟨s, a⟩ := st
      simp only at *
      go_wp2
      go_round
      case rel => exact ⟨k + 1, by omega, by go_num, by rw [HN.out], by rw [HN.out]⟩
      case measure => (simp [intOf] <;> omega)
    · have hke : k = n + 1 := by omega
      subst hke
      go_wp2
      go_ret
      exact ⟨ret_int (by unfold tripOf; rw [HL.out, HPS.out]), HE3.out⟩
-- impl.TripOf
theorem iTripOf_any (m : Int) (A : Option Addr) (n c : Nat) (rows : List (List Int)) (A2 : Option Addr) (n2 c2 : Nat) (far : List (List Int)) (k : Int) (w : World) (hm : I64 m) (h : Grid w A n c rows) (h2 : Grid w A2 n2 c2 far) :
    Calls Try.prog 57 #[.int .i64 m, .slice A n c, .slice A2 n2 c2, .int .i64 k] w fun e w' => e = .returned (.int .i64 (trip m rows far k)) ∧ Ext w w' := by
  have H_h := hide h
  have H_h2 := hide h2
  clear h h2
  by_cases hp1 : ofPlan m rows k
  · skip
    have HP1 := hide hp1
    by_cases hp2 : distOk m far
    · skip
      have HP2 := hide hp2
      obtain ⟨j, rfl⟩ : ∃ j : Nat, k = (j : Int) := ⟨k.toNat, by have := hp1.2; omega⟩
      have hjm : (j : Int) < m := by have := hp1.2; omega
      have HF := hide (show trip m rows far (j : Int) = tripOf rows far j from (by rw [trip, if_pos ⟨hp1, hp2⟩, Int.toNat_natCast]))
      clear hp1 hp2
      go_enter Try.func57, Try.ntmps57
      go_wp2_with (first | (go_at_call 123; refine (isOfPlan_any _ _ _ _ rows _ _ hm H_h.out).mono ?_; rw [decide_eq_true HP1.out]; rintro e w1 ⟨rfl, hE1⟩) | (go_at_call 54; refine (iDistOk_any _ _ _ _ far _ hm (H_h2.out.ext hE1)).mono ?_; rw [decide_eq_true HP2.out]; rintro e w2 ⟨rfl, hE2⟩) | (go_at_call 125; refine (iTrip_any m _ _ _ rows _ _ _ far j _ (H_h.out.ext (hE1.trans hE2)) (H_h2.out.ext (hE1.trans hE2)) HP1.out.1 HP2.out hjm).mono ?_; rintro e w3 ⟨rfl, hE3⟩))
      go_ret
      exact ⟨ret_int HF.out.symm, ((hE1.trans hE2).trans hE3)⟩
    · have HP2 := hide hp2
      have HF := hide (show (trip m rows far k) = -1 from by
        unfold trip
        rw [if_neg]
        intro hh; exact HP2.out (by first | exact hh.1 | exact hh.2.1 | exact hh.2.2.1 | exact hh.2.2 | exact hh.2.2.2 | exact hh.2.2.2.1 | exact hh | (have := hh; omega) | simp_all))
      clear hp1 hp2
      go_enter Try.func57, Try.ntmps57
      go_wp2_with (first | (go_at_call 123; refine (isOfPlan_any _ _ _ _ rows _ _ hm H_h.out).mono ?_; rw [decide_eq_true HP1.out]; rintro e w1 ⟨rfl, hE1⟩) | (go_at_call 54; refine (iDistOk_any _ _ _ _ far _ hm (H_h2.out.ext hE1)).mono ?_; rw [decide_eq_false HP2.out]; rintro e w2 ⟨rfl, hE2⟩))
      go_ret
      exact ⟨ret_int HF.out.symm, (hE1.trans hE2)⟩
  · have HP1 := hide hp1
    have HF := hide (show (trip m rows far k) = -1 from by
      unfold trip
      rw [if_neg]
      intro hh; exact HP1.out (by first | exact hh.1 | exact hh.2.1 | exact hh.2.2.1 | exact hh.2.2 | exact hh.2.2.2 | exact hh.2.2.2.1 | exact hh | (have := hh; omega) | simp_all))
    clear hp1
    go_enter Try.func57, Try.ntmps57
    go_wp2_with (first | (go_at_call 123; refine (isOfPlan_any _ _ _ _ rows _ _ hm H_h.out).mono ?_; rw [decide_eq_false HP1.out]; rintro e w1 ⟨rfl, hE1⟩))
    go_ret
    exact ⟨ret_int HF.out.symm, hE1⟩
-- impl.TravelOf
theorem iTravelOf_any (m : Int) (A : Option Addr) (n c : Nat) (rows : List (List Int)) (A2 : Option Addr) (n2 c2 : Nat) (far : List (List Int)) (w : World) (hm : I64 m) (h : Grid w A n c rows) (h2 : Grid w A2 n2 c2 far) :
    Calls Try.prog 62 #[.int .i64 m, .slice A n c, .slice A2 n2 c2] w fun e w' => e = .returned (.int .i64 (travel m rows far)) ∧ Ext w w' := by
  have H_h := hide h
  have H_h2 := hide h2
  clear h h2
  by_cases hp1 : planOk m rows
  · skip
    have HP1 := hide hp1
    by_cases hp2 : distOk m far
    · skip
      have HP2 := hide hp2
      have hm10 : 2 ≤ m ∧ m ≤ 10 := hp1.1.1
      obtain ⟨p, rfl⟩ : ∃ p : Nat, m = (p : Int) := ⟨m.toNat, by omega⟩
      have HF := hide (show travel (p : Int) rows far = travelTo rows far p from (by rw [travel, if_pos ⟨hp1, hp2⟩, Int.toNat_natCast]))
      clear hp1 hp2
      go_enter Try.func62, Try.ntmps62
      go_wp2_with (first | (go_at_call 130; refine (iPlanOk_any _ _ _ _ rows _ hm H_h.out).mono ?_; rw [decide_eq_true HP1.out]; rintro e w1 ⟨rfl, hE1⟩) | (go_at_call 54; refine (iDistOk_any _ _ _ _ far _ hm (H_h2.out.ext hE1)).mono ?_; rw [decide_eq_true HP2.out]; rintro e w2 ⟨rfl, hE2⟩))
      have HE := hide (hE1.trans hE2)
      go_loopw [7, 20] (fun s i wr => ∃ k : Nat, k ≤ p ∧ i = .int .i64 k ∧ s = .int .i64 (travelTo rows far k) ∧ Ext w wr) (fun _ i _ => p - (intOf i).toNat)
      case atStart => exact ⟨0, Nat.zero_le _, rfl, rfl, HE.out⟩
      case round =>
        obtain ⟨k, hk, rfl, rfl, hE⟩ := hrel
        by_cases hlt : k < p
        · have hb := travelTo_bound HP1.out HP2.out (k := k) (by omega)
          have hb2 := tripOf_bound HP1.out HP2.out (k := k) (by omega)
          have HEW := hide hE; clear hE
          have HN := hide (show travelTo rows far (k + 1) = travelTo rows far k + tripOf rows far k from rfl)
          generalize travelTo rows far k = S at *
          go_wp2_with (go_at_call 125; refine (iTrip_any (p : Int) _ _ _ rows _ _ _ far k _ (H_h.out.ext HEW.out) (H_h2.out.ext HEW.out) HP1.out HP2.out (by omega)).mono ?_; rintro e w9 ⟨rfl, hE9⟩)
          go_roundw
          case rel => exact ⟨k + 1, by omega, by go_num, by rw [HN.out], HEW.out.trans hE9⟩
          case measure => (simp [intOf] <;> omega)
        · have hke : k = p := by omega
          subst hke
          have HEW := hide hE; clear hE
          go_wp2
          go_ret
          exact ⟨ret_int HF.out.symm, HEW.out⟩
    · have HP2 := hide hp2
      have HF := hide (show (travel m rows far) = -1 from by
        unfold travel
        rw [if_neg]
        intro hh; exact HP2.out (by first | exact hh.1 | exact hh.2.1 | exact hh.2.2.1 | exact hh.2.2 | exact hh.2.2.2 | exact hh.2.2.2.1 | exact hh | (have := hh; omega) | simp_all))
      clear hp1 hp2
      go_enter Try.func62, Try.ntmps62
      go_wp2_with (first | (go_at_call 130; refine (iPlanOk_any _ _ _ _ rows _ hm H_h.out).mono ?_; rw [decide_eq_true HP1.out]; rintro e w1 ⟨rfl, hE1⟩) | (go_at_call 54; refine (iDistOk_any _ _ _ _ far _ hm (H_h2.out.ext hE1)).mono ?_; rw [decide_eq_false HP2.out]; rintro e w2 ⟨rfl, hE2⟩))
      go_ret
      exact ⟨ret_int HF.out.symm, (hE1.trans hE2)⟩
  · have HP1 := hide hp1
    have HF := hide (show (travel m rows far) = -1 from by
      unfold travel
      rw [if_neg]
      intro hh; exact HP1.out (by first | exact hh.1 | exact hh.2.1 | exact hh.2.2.1 | exact hh.2.2 | exact hh.2.2.2 | exact hh.2.2.2.1 | exact hh | (have := hh; omega) | simp_all))
    clear hp1
    go_enter Try.func62, Try.ntmps62
    go_wp2_with (first | (go_at_call 130; refine (iPlanOk_any _ _ _ _ rows _ hm H_h.out).mono ?_; rw [decide_eq_false HP1.out]; rintro e w1 ⟨rfl, hE1⟩))
    go_ret
    exact ⟨ret_int HF.out.symm, hE1⟩

end Go.Proofs.Ytbaljgdepicigaa
