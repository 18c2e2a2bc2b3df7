/-
  Contracts of the functions on plans of rounds.
-/
import Derived.Test.YtbaljgdepicigaaBase
import Derived.Test.YtbaljgdepicigaaMathA
import Derived.Test.YtbaljgdepicigaaMathD
import Derived.Test.YtbaljgdepicigaaLib
import Derived.Test.YtbaljgdepicigaaAid
import Derived.Test.YtbaljgdepicigaaGrid
import Derived.Test.YtbaljgdepicigaaLibF
import Derived.Test.YtbaljgdepicigaaMathT
import Derived.Test.YtbaljgdepicigaaDist
namespace Go.Proofs.Ytbaljgdepicigaa
open Go.RowKit
set_option linter.unusedVariables false
set_option maxRecDepth 100000

-- impl.opponent
theorem opponent_q (A : Option Addr) (n c : Nat) (r : List Int) (k : Nat) (v : Int) (o : Nat) (w : World) (h : Ints w A n c r) (hv : r[k]? = some v) (hb : -100 ≤ v ∧ v ≤ 100) (ho : opp v = (o : Int)) :
    Calls Try.prog 177 #[.slice A n c, .int .i64 (k : Int)] w fun e w' => e = .returned (.int .i64 (o : Int)) ∧ Qt w w' := by
  have hk : k < n := by have := (List.getElem?_eq_some_iff.1 hv).1; have := h.len; omega
  have hle := h.le
  have hmx := h.max
  obtain ⟨b, off, x, rfl, hbl, hx, wx, hc⟩ := h.get hk
  rw [hv] at hx
  cases hx
  have HO := hide ho
  clear h hv ho
  have hw1 : IntKind.i64.wrap (-v) = -v := by simp [IntKind.wrap, IntKind.bits, IntKind.signed]; omega
  by_cases hp : 0 ≤ v
  · have hw2 : IntKind.i64.wrap (v - 1) = v - 1 := by simp [IntKind.wrap, IntKind.bits, IntKind.signed]; omega
    go_enter Try.func177, Try.ntmps177
    go_wp2
    go_quiet (fail)
    go_wp2
    go_ret
    exact ⟨ret_int (by rw [← HO.out]; unfold opp; first | omega | (split <;> omega)), ⟨_, rfl⟩⟩
  · have hw2 : IntKind.i64.wrap (-v - 1) = -v - 1 := by simp [IntKind.wrap, IntKind.bits, IntKind.signed]; omega
    go_enter Try.func177, Try.ntmps177
    go_wp2
    go_quiet (fail)
    go_wp2
    go_ret
    exact ⟨ret_int (by rw [← HO.out]; unfold opp; first | omega | (split <;> omega)), ⟨_, rfl⟩⟩
-- impl.sign
theorem sign_any (v s : Int) (w : World) (hs : (0 < v ∧ s = 1) ∨ (v < 0 ∧ s = -1)) :
    Calls Try.prog 179 #[.int .i64 v] w fun e w' => e = .returned (.int .i64 s) ∧ w = w' := by
  rcases hs with ⟨h, rfl⟩ | ⟨h, rfl⟩
  all_goals
    go_enter Try.func179, Try.ntmps179
    go_wp2
    go_ret
    exact ⟨rfl, rfl⟩
-- spec.l16Other
theorem l16Other_any (v o : Int) (w : World) (hb : -100 ≤ v ∧ v ≤ 100) (ho : opp v = o) :
    Calls Try.prog 202 #[.int .i64 v] w fun e w' => e = .returned (.int .i64 o) ∧ w = w' := by
  have HO := hide ho
  clear ho
  go_enter Try.func202, Try.ntmps202
  go_wp2
  all_goals
    go_ret
    exact ⟨ret_int (by rw [← HO.out]; unfold opp; omega), rfl⟩
-- spec.PlanOk
set_option maxHeartbeats 1000000 in
theorem sPlanOk_any (m : Int) (A : Option Addr) (n c : Nat) (rows : List (List Int)) (w : World) (hm : I64 m) (h : Grid w A n c rows) :
    Calls Try.prog 194 #[.int .i64 m, .slice A n c] w fun e w' => e = .returned (.bool (decide (planOk m rows))) ∧ w = w' := by
  have HL := hide h.len
  have hle := h.le
  have hmx := h.max
  by_cases hcl : clubs m
  · have HC := hide hcl
    obtain ⟨p, rfl⟩ : ∃ p : Nat, m = (p : Int) := ⟨m.toNat, by have := hcl.1; omega⟩
    have h10 : p ≤ 10 := by have := hcl.1; omega
    clear hcl
    by_cases h36 : n ≤ 36
    · go_enter Try.func194, Try.ntmps194
      go_wp2_with (go_at_call 176; refine (l16Size_any _ _).mono ?_; rw [decide_eq_true HC.out]; rintro e w' ⟨rfl, rfl⟩)
      go_loop [22] (fun i => ∃ k : Nat, k ≤ n ∧ i = .int .i64 k ∧ Hid (∀ r ∈ rows.take k, planRow p r)) (fun i => n - (intOf i).toNat)
      case atStart => exact ⟨0, Nat.zero_le _, rfl, hide (by simp)⟩
      case round =>
        obtain ⟨a, ha, rfl, HV⟩ := hrel
        by_cases hlt : a < n
        · obtain ⟨b, off, B, d, r, rfl, hb, hx, hc, hi⟩ := h.get hlt
          have HX := hide hx
          have hrd := hi.le
          have hrm := hi.rd.max
          clear hx
          by_cases hrl : r.length = p
          · have hb0 : ((r.length : Int) != (p : Int)) = false := by simp [hrl]
            have HRL := hide hrl
            have HI := hide hi
            clear hrl hi
            go_wp2
            clear hb0
            go_loop [32] (fun i => ∃ k : Nat, k ≤ r.length ∧ i = .int .i64 k ∧ Hid (∀ x ∈ r.take k, ¬ x = 0 ∧ -(p : Int) ≤ x ∧ x ≤ p)) (fun i => r.length - (intOf i).toNat)
            case atStart => exact ⟨0, Nat.zero_le _, rfl, hide (by simp)⟩
            case round =>
              obtain ⟨q, hq, rfl, HU⟩ := hrel
              by_cases hlt3 : q < r.length
              · obtain ⟨b1, o1, x, rfl, hb1, hx1, wx, hc1⟩ := HI.out.get hlt3
                have HX1 := hide hx1
                clear hx1
                by_cases hin : -(p : Int) ≤ x ∧ x ≤ p
                · by_cases hx0 : x = 0
                  · have HN := hide (show ¬ planOk (p : Int) rows from fun hd => ((hd.2.2 r (List.mem_of_getElem? HX.out)).2.1 x (List.mem_of_getElem? HX1.out)).1 hx0)
                    subst hx0
                    go_wp2_with (go_at_call 146; refine (l01In_any _ _ _ _).mono ?_; rintro e w' ⟨rfl, rfl⟩)
                    go_ret
                    exact ⟨ret_bool (by symm; rw [decide_eq_false_iff_not]; exact HN.out), rfl⟩
                  · have hxb : (x == 0) = false := by simpa using hx0
                    have HX0 := hide hx0
                    clear hx0
                    go_wp2_with (go_at_call 146; refine (l01In_any _ _ _ _).mono ?_; rintro e w' ⟨rfl, rfl⟩)
                    go_round
                    case rel =>
                      refine ⟨q + 1, by omega, by go_num, hide ?_⟩
                      rw [take_snoc_of HX1.out]
                      intro z hz
                      rcases List.mem_append.1 hz with hz | hz
                      · exact HU.out z hz
                      · obtain rfl : z = x := by simpa using hz
                        exact ⟨HX0.out, hin⟩
                    case measure => (simp [intOf] <;> omega)
                · have HN := hide (show ¬ planOk (p : Int) rows from fun hd => hin ((hd.2.2 r (List.mem_of_getElem? HX.out)).2.1 x (List.mem_of_getElem? HX1.out)).2)
                  go_wp2_with (go_at_call 146; refine (l01In_any _ _ _ _).mono ?_; rw [decide_eq_false hin]; rintro e w' ⟨rfl, rfl⟩)
                  go_ret
                  exact ⟨ret_bool (by symm; rw [decide_eq_false_iff_not]; exact HN.out), rfl⟩
              · have hqe : q = r.length := by omega
                have HR := hide (show ∀ x ∈ r, ¬ x = 0 ∧ -(p : Int) ≤ x ∧ x ≤ p by have hu := HU.out; rw [hqe, List.take_length] at hu; exact hu)
                clear hqe
                go_wp2
                go_loop [49] (fun i => ∃ k : Nat, k ≤ r.length ∧ i = .int .i64 k ∧ Hid (∀ j, j < k → meets r j)) (fun i => r.length - (intOf i).toNat)
                case atStart => exact ⟨0, Nat.zero_le _, rfl, hide (fun j hj => absurd hj (Nat.not_lt_zero _))⟩
                case round =>
                  obtain ⟨k, hk, rfl, HW⟩ := hrel
                  by_cases hlt4 : k < r.length
                  · obtain ⟨b1, o1, x, rfl, hb1, hx1, wx, hc1⟩ := HI.out.get hlt4
                    have hx0 := HR.out x (List.mem_of_getElem? hx1)
                    have hob := opp_bound hx0.1 hx0.2
                    obtain ⟨o, ho⟩ : ∃ o : Nat, opp x = (o : Int) := ⟨(opp x).toNat, by omega⟩
                    have hol : o < r.length := by have := HRL.out; omega
                    obtain ⟨b2, o2, y, e2, hb2, hx2, wy, hc2⟩ := HI.out.get hol
                    cases e2
                    have hy0 := HR.out y (List.mem_of_getElem? hx2)
                    have hob2 := opp_bound hy0.1 hy0.2
                    obtain ⟨o', ho'⟩ : ∃ o' : Nat, opp y = (o' : Int) := ⟨(opp y).toNat, by omega⟩
                    have HM := hide (meets_iff hx1 ho hx2)
                    have HX1 := hide hx1
                    have HO := hide ho
                    have HO' := hide ho'
                    have hxn : ¬ x = 0 := hx0.1
                    have hyn : ¬ y = 0 := hy0.1
                    clear hx1 hx2 ho ho' hob hob2
                    have HN := hide (show ¬ meets r k → ¬ planOk (p : Int) rows from fun hm hd => hm ((hd.2.2 r (List.mem_of_getElem? HX.out)).2.2 k hlt4))
                    by_cases hok : o = k
                    · have hb3 : ((o : Int) == (k : Int)) = true := by simp [hok]
                      have HK := hide hok
                      clear hok
                      go_wp2_with (go_at_call 202; refine (l16Other_any _ o _ (by omega) HO.out).mono ?_; rintro e w' ⟨rfl, rfl⟩)
                      go_ret
                      exact ⟨ret_bool (by symm; rw [decide_eq_false_iff_not]; exact HN.out fun hm => (HM.out.1 hm).1 HK.out), rfl⟩
                    · have hb3 : ((o : Int) == (k : Int)) = false := by simp; omega
                      have HK := hide hok
                      clear hok
                      by_cases hok2 : o' = k
                      · have hb4 : ((o' : Int) != (k : Int)) = false := by simp [hok2]
                        have HK2 := hide hok2
                        clear hok2
                        by_cases hs : decide (x > 0) = decide (y > 0)
                        · have HS := hide hs
                          have hb5 : (decide (x > 0) == decide (y > 0)) = true := by simp [hs]
                          have HNM : Hid (¬ meets r k) := hide (fun hm => by
                            have h1 := (HM.out.1 hm).2
                            rw [decide_eq_decide] at hs
                            split at h1 <;> omega)
                          clear hs
                          go_wp2_with (first | (go_at_call 202; refine (l16Other_any x o _ (by omega) HO.out).mono ?_; rintro e w' ⟨rfl, rfl⟩) | (go_at_call 202; refine (l16Other_any y o' _ (by omega) HO'.out).mono ?_; rintro e w' ⟨rfl, rfl⟩))
                          go_ret
                          exact ⟨ret_bool (by symm; rw [decide_eq_false_iff_not]; exact HN.out HNM.out), rfl⟩
                        · have HS := hide hs
                          have hb5 : (decide (x > 0) == decide (y > 0)) = false := by simpa using hs
                          clear hs
                          go_wp2_with (first | (go_at_call 202; refine (l16Other_any x o _ (by omega) HO.out).mono ?_; rintro e w' ⟨rfl, rfl⟩) | (go_at_call 202; refine (l16Other_any y o' _ (by omega) HO'.out).mono ?_; rintro e w' ⟨rfl, rfl⟩))
                          go_round
                          case rel =>
                            refine ⟨k + 1, by omega, by go_num, hide (fun j hj => ?_)⟩
                            by_cases e : j = k
                            · subst e
                              refine HM.out.2 ⟨HK.out, ?_⟩
                              have h2 := HS.out
                              rw [decide_eq_decide] at h2
                              have h3 := HO'.out
                              have h4 := HK2.out
                              unfold opp at h3
                              split <;> omega
                            · exact HW.out j (by omega)
                          case measure => (simp [intOf] <;> omega)
                      · have hb4 : ((o' : Int) != (k : Int)) = true := by simp; omega
                        have HK2 := hide hok2
                        have HNM : Hid (¬ meets r k) := hide (fun hm => by
                          have h1 := (HM.out.1 hm).2
                          have h3 := HO'.out
                          unfold opp at h3
                          split at h1 <;> omega)
                        clear hok2
                        go_wp2_with (first | (go_at_call 202; refine (l16Other_any x o _ (by omega) HO.out).mono ?_; rintro e w' ⟨rfl, rfl⟩) | (go_at_call 202; refine (l16Other_any y o' _ (by omega) HO'.out).mono ?_; rintro e w' ⟨rfl, rfl⟩))
                        go_ret
                        exact ⟨ret_bool (by symm; rw [decide_eq_false_iff_not]; exact HN.out HNM.out), rfl⟩
                  · have hke : k = r.length := by omega
                    have HK := hide hke
                    clear hke
                    go_wp2
                    go_round
                    case rel =>
                      refine ⟨a + 1, by omega, by go_num, hide ?_⟩
                      rw [take_snoc_of HX.out]
                      intro z hz
                      rcases List.mem_append.1 hz with hz | hz
                      · exact HV.out z hz
                      · obtain rfl : z = r := by simpa using hz
                        exact ⟨by rw [HRL.out], HR.out, by have hw := HW.out; rw [HK.out] at hw; exact hw⟩
                    case measure => (simp [intOf] <;> omega)
          · have hb0 : ((r.length : Int) != (p : Int)) = true := by rw [bne_iff_ne]; omega
            have HN := hide (show ¬ planOk (p : Int) rows from fun hd => hrl (by have := (hd.2.2 r (List.mem_of_getElem? HX.out)).1; omega))
            clear hrl
            go_wp2
            go_ret
            exact ⟨ret_bool (by symm; rw [decide_eq_false_iff_not]; exact HN.out), rfl⟩
        · have hke : a = n := by omega
          subst hke
          go_wp2
          go_ret
          exact ⟨ret_bool (by symm; rw [decide_eq_true_eq]; have hv := HV.out; rw [take_len HL.out] at hv; exact ⟨HC.out, by have := HL.out; omega, hv⟩), rfl⟩
    · go_enter Try.func194, Try.ntmps194
      go_wp2_with (go_at_call 176; refine (l16Size_any _ _).mono ?_; rw [decide_eq_true HC.out]; rintro e w' ⟨rfl, rfl⟩)
      go_ret
      exact ⟨ret_bool (by symm; rw [decide_eq_false_iff_not]; intro hd; have := hd.2.1; have := HL.out; omega), rfl⟩
  · have HC := hide hcl; clear hcl
    go_enter Try.func194, Try.ntmps194
    go_wp2_with (go_at_call 176; refine (l16Size_any _ _).mono ?_; rw [decide_eq_false HC.out]; rintro e w' ⟨rfl, rfl⟩)
    go_ret
    exact ⟨ret_bool (by symm; rw [decide_eq_false_iff_not]; exact fun hd => HC.out hd.1), rfl⟩

end Go.Proofs.Ytbaljgdepicigaa
