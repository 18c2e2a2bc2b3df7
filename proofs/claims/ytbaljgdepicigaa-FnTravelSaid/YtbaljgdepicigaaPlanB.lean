/-
  Contracts of the functions on plans of rounds: the program's side, runs, places.
-/
import Derived.Test.YtbaljgdepicigaaBase
import Derived.Test.YtbaljgdepicigaaMathA
import Derived.Test.YtbaljgdepicigaaMathD
import Derived.Test.YtbaljgdepicigaaLib
import Derived.Test.YtbaljgdepicigaaAid
import Derived.Test.YtbaljgdepicigaaGrid
import Derived.Test.YtbaljgdepicigaaLibF
import Derived.Test.YtbaljgdepicigaaMathT
import Derived.Test.YtbaljgdepicigaaDist
import Derived.Test.YtbaljgdepicigaaPlan
namespace Go.Proofs.Ytbaljgdepicigaa
open Go.RowKit
set_option linter.unusedVariables false

-- impl.PlanOk
theorem within_v (n lo hi : Int) (b : Bool) (hb : decide (lo ≤ n ∧ n ≤ hi) = b) (w : World) :
    Calls Try.prog 94 #[.int .i64 n, .int .i64 lo, .int .i64 hi] w fun e w' => e = .returned (.bool b) ∧ w' = w := by
  subst hb
  exact (within_any n lo hi w).mono fun _ _ ⟨a, b⟩ => ⟨a, b.symm⟩
theorem sign_v (v s : Int) (hs : (0 < v ∧ s = 1) ∨ (v < 0 ∧ s = -1)) (w : World) :
    Calls Try.prog 179 #[.int .i64 v] w fun e w' => e = .returned (.int .i64 s) ∧ w' = w :=
  (sign_any v s w hs).mono fun _ _ ⟨a, b⟩ => ⟨a, b.symm⟩
theorem wrap_id {x : Int} (h : I64 x) : IntKind.i64.wrap x = x := by
  obtain ⟨h1, h2⟩ := h
  rw [IntKind.wrap_i64]
  omega
theorem expected (k : Nat) (x : Int) (hk : k ≤ 1000) (hx : ¬ x = 0) : ∃ s t : Int, ((0 < -x ∧ s = 1) ∨ (-x < 0 ∧ s = -1)) ∧ t = (if 0 < x then -((k : Int) + 1) else (k : Int) + 1) ∧ IntKind.i64.wrap (((k : Int) + 1) * s) = t := by
  by_cases hpos : 0 < x
  · exact ⟨-1, -((k : Int) + 1), .inr ⟨by omega, rfl⟩, by rw [if_pos hpos], by rw [show ((k : Int) + 1) * -1 = -((k : Int) + 1) by omega]; exact wrap_id ⟨by omega, by omega⟩⟩
  · exact ⟨1, (k : Int) + 1, .inl ⟨by omega, rfl⟩, by rw [if_neg hpos], by rw [Int.mul_one]; exact wrap_id ⟨by omega, by omega⟩⟩
set_option maxHeartbeats 2000000 in
theorem iPlanOk_any (m : Int) (A : Option Addr) (n c : Nat) (rows : List (List Int)) (w : World) (hm : I64 m) (h : Grid w A n c rows) :
    Calls Try.prog 130 #[.int .i64 m, .slice A n c] w fun e w' => e = .returned (.bool (decide (planOk m rows))) ∧ Ext w w' := by
  have HL := hide h.len
  have hle := h.le
  have hmx := h.max
  by_cases hcl : clubs m
  · have HC := hide hcl
    obtain ⟨p, rfl⟩ : ∃ p : Nat, m = (p : Int) := ⟨m.toNat, by have := hcl.1; omega⟩
    have h10 : p ≤ 10 := by have := hcl.1; omega
    clear hcl
    by_cases h36 : n ≤ 36
    · go_enter Try.func130, Try.ntmps130
      go_wp2_with (go_at_call 122; refine (isClubs_any _ _).mono ?_; rw [decide_eq_true HC.out]; rintro e w' ⟨rfl, rfl⟩)
      go_loopw [19] (fun i wr => ∃ k : Nat, k ≤ n ∧ i = .int .i64 k ∧ Hid (∀ r ∈ rows.take k, planRow p r) ∧ Ext w wr) (fun i _ => n - (intOf i).toNat)
      case atStart => exact ⟨0, Nat.zero_le _, rfl, hide (by simp), Ext.refl _⟩
      case round =>
        obtain ⟨a, ha, rfl, HV, hE⟩ := hrel
        by_cases hlt : a < n
        · obtain ⟨b, off, B, d, r, rfl, hb, hx, hc, hi⟩ := (h.ext hE).get hlt
          have HX := hide hx
          have HE := hide hE
          have hrd := hi.le
          have hrm := hi.rd.max
          clear hx hE
          by_cases hrl : r.length = p
          · have hb0 : ((r.length : Int) != (p : Int)) = false := by simp [hrl]
            have HRL := hide hrl
            have HI := hide hi
            clear hrl hi
            go_wp2
            clear hb0
            obtain ⟨w0, rfl⟩ : ∃ w0 : World, w0 = wr := ⟨_, rfl⟩
            go_loopw [29] (fun i wr => ∃ k : Nat, k ≤ r.length ∧ i = .int .i64 k ∧ Hid ((∀ x ∈ r.take k, ¬ x = 0 ∧ -(p : Int) ≤ x ∧ x ≤ p) ∧ ∀ j, j < k → meets r j) ∧ Ext w0 wr) (fun i _ => r.length - (intOf i).toNat)
            case atStart => exact ⟨0, Nat.zero_le _, rfl, hide ⟨by simp, fun j hj => absurd hj (Nat.not_lt_zero _)⟩, Ext.refl _⟩
            case round =>
              obtain ⟨k, hk, rfl, HU, hE2⟩ := hrel
              have HE2 := hide hE2
              by_cases hlt4 : k < r.length
              · obtain ⟨b1, o1, x, rfl, hb1, hx1, wx, hc1⟩ := (HI.out.ext hE2).get hlt4
                have HX1 := hide hx1
                have HN := hide (show ¬ planRow (p : Int) r → ¬ planOk (p : Int) rows from fun hm hd => hm (hd.2.2 r (List.mem_of_getElem? HX.out)))
                have HIR := hide (HI.out.ext hE2)
                clear hx1 hE2 hc
                have hwp : IntKind.i64.wrap (-(p : Int)) = -(p : Int) := wrap_id ⟨by omega, by omega⟩
                by_cases hx0 : x = 0
                · have HNR := hide (show ¬ planRow (p : Int) r from fun hd => (hd.2.1 x (List.mem_of_getElem? HX1.out)).1 hx0)
                  subst hx0
                  go_wp2
                  go_quiet (fail)
                  go_wp2
                  go_ret
                  exact ⟨ret_bool (by symm; rw [decide_eq_false_iff_not]; exact HN.out HNR.out), (HE.out.trans HE2.out).drewN _⟩
                · have hxb : (x == 0) = false := by simpa using hx0
                  have HX0 := hide hx0
                  by_cases hin : -(p : Int) ≤ x ∧ x ≤ p
                  · have HIN := hide (decide_eq_true hin)
                    have hob := opp_bound hx0 hin
                    obtain ⟨o, ho⟩ : ∃ o : Nat, opp x = (o : Int) := ⟨(opp x).toNat, by omega⟩
                    have hol : o < r.length := by have := HRL.out; omega
                    have HO := hide ho
                    clear ho hob hx0
                    by_cases hok : o = k
                    · have hb3 : ((o : Int) == (k : Int)) = true := by simp [hok]
                      have HNR := hide (show ¬ planRow (p : Int) r from fun hd => (hd.2.2 k hlt4).1 (by rw [List.getD, HX1.out]; simp only [Option.getD_some]; rw [HO.out, hok]))
                      clear hok
                      go_wp2
                      go_quiet (first | (go_at_call 94; exact Calls.quiet_of_same (within_v _ _ _ true HIN.out _)) | (go_at_call 177; exact Calls.quiet_of (opponent_q _ _ _ r k x o _ (HIR.out.ext ((Ext.refl _).drewN _)) HX1.out (by omega) HO.out)))
                      go_wp2
                      go_ret
                      exact ⟨ret_bool (by symm; rw [decide_eq_false_iff_not]; exact HN.out HNR.out), (HE.out.trans HE2.out).drewN _⟩
                    · have hb3 : ((o : Int) == (k : Int)) = false := by simp; omega
                      obtain ⟨b2, o2, y, e2, hb2, hx2, wy, hc2⟩ := HIR.out.get hol
                      cases e2
                      have HM := hide (meets_iff HX1.out HO.out hx2)
                      have HK := hide hok
                      clear hok hx2
                      have hs := expected k x (by have := HRL.out; omega) HX0.out
                      obtain ⟨s, t, hs, ht, hmul⟩ := hs
                      have HS := hide hs
                      have HT := hide ht
                      clear hs ht
                      have hwx : IntKind.i64.wrap (-x) = -x := wrap_id ⟨by omega, by omega⟩
                      have hwk : IntKind.i64.wrap ((k : Int) + 1) = (k : Int) + 1 := wrap_id ⟨by omega, by have := HRL.out; omega⟩
                      by_cases hyt : y = t
                      · have hb4 : (y != t) = false := by simp [hyt]
                        have HY := hide hyt
                        clear hyt
                        go_wp2
                        go_quiet (first | (go_at_call 94; exact Calls.quiet_of_same (within_v _ _ _ true HIN.out _)) | (go_at_call 177; exact Calls.quiet_of (opponent_q _ _ _ r k x o _ (HIR.out.ext ((Ext.refl _).drewN _)) HX1.out (by omega) HO.out)) | (go_at_call 179; exact Calls.quiet_of_same (sign_v (-x) s HS.out _)))
                        go_wp2
                        go_roundw
                        case rel =>
                          refine ⟨k + 1, by omega, by go_num, hide ⟨?_, fun j hj => ?_⟩, HE2.out.drewN _⟩
                          · rw [take_snoc_of HX1.out]
                            intro z hz
                            rcases List.mem_append.1 hz with hz | hz
                            · exact HU.out.1 z hz
                            · obtain rfl : z = x := by simpa using hz
                              exact ⟨HX0.out, hin⟩
                          · by_cases e : j = k
                            · subst e; exact HM.out.2 ⟨HK.out, by rw [HY.out, HT.out]⟩
                            · exact HU.out.2 j (by omega)
                        case measure => (simp [intOf] <;> omega)
                      · have hb4 : (y != t) = true := by simpa using hyt
                        have HNR := hide (show ¬ planRow (p : Int) r from fun hd => hyt (by rw [HT.out]; exact (HM.out.1 (hd.2.2 k hlt4)).2))
                        clear hyt
                        go_wp2
                        go_quiet (first | (go_at_call 94; exact Calls.quiet_of_same (within_v _ _ _ true HIN.out _)) | (go_at_call 177; exact Calls.quiet_of (opponent_q _ _ _ r k x o _ (HIR.out.ext ((Ext.refl _).drewN _)) HX1.out (by omega) HO.out)) | (go_at_call 179; exact Calls.quiet_of_same (sign_v (-x) s HS.out _)))
                        go_wp2
                        go_ret
                        exact ⟨ret_bool (by symm; rw [decide_eq_false_iff_not]; exact HN.out HNR.out), (HE.out.trans HE2.out).drewN _⟩
                  · have HIN := hide (decide_eq_false hin)
                    have HNR := hide (show ¬ planRow (p : Int) r from fun hd => hin (hd.2.1 x (List.mem_of_getElem? HX1.out)).2)
                    clear hin hx0
                    go_wp2
                    go_quiet (first | (go_at_call 94; exact Calls.quiet_of_same (within_v _ _ _ false HIN.out _)))
                    go_wp2
                    go_ret
                    exact ⟨ret_bool (by symm; rw [decide_eq_false_iff_not]; exact HN.out HNR.out), (HE.out.trans HE2.out).drewN _⟩
              · have hke : k = r.length := by omega
                have HK := hide hke
                clear hke hE2
                go_wp2
                go_roundw
                case rel =>
                  refine ⟨a + 1, by omega, by go_num, hide ?_, HE.out.trans HE2.out⟩
                  rw [take_snoc_of HX.out]
                  intro z hz
                  rcases List.mem_append.1 hz with hz | hz
                  · exact HV.out z hz
                  · obtain rfl : z = r := by simpa using hz
                    have hu := HU.out
                    rw [HK.out, List.take_length] at hu
                    exact ⟨by rw [HRL.out], hu.1, hu.2⟩
                case measure => (simp [intOf] <;> omega)
          · have hb0 : ((r.length : Int) != (p : Int)) = true := by rw [bne_iff_ne]; omega
            have HN := hide (show ¬ planOk (p : Int) rows from fun hd => hrl (by have := (hd.2.2 r (List.mem_of_getElem? HX.out)).1; omega))
            clear hrl
            go_wp2
            go_ret
            exact ⟨ret_bool (by symm; rw [decide_eq_false_iff_not]; exact HN.out), HE.out⟩
        · have hke : a = n := by omega
          subst hke
          have HE := hide hE; clear hE
          go_wp2
          go_ret
          exact ⟨ret_bool (by symm; rw [decide_eq_true_eq]; have hv := HV.out; rw [take_len HL.out] at hv; exact ⟨HC.out, by have := HL.out; omega, hv⟩), HE.out⟩
    · go_enter Try.func130, Try.ntmps130
      go_wp2_with (go_at_call 122; refine (isClubs_any _ _).mono ?_; rw [decide_eq_true HC.out]; rintro e w' ⟨rfl, rfl⟩)
      go_ret
      exact ⟨ret_bool (by symm; rw [decide_eq_false_iff_not]; intro hd; have := hd.2.1; have := HL.out; omega), Ext.refl _⟩
  · have HC := hide hcl; clear hcl
    go_enter Try.func130, Try.ntmps130
    go_wp2_with (go_at_call 122; refine (isClubs_any _ _).mono ?_; rw [decide_eq_false HC.out]; rintro e w' ⟨rfl, rfl⟩)
    go_ret
    exact ⟨ret_bool (by symm; rw [decide_eq_false_iff_not]; exact fun hd => HC.out hd.1), Ext.refl _⟩
-- impl.isOfPlan
theorem isOfPlan_any (m : Int) (A : Option Addr) (n c : Nat) (rows : List (List Int)) (k : Int) (w : World) (hm : I64 m) (h : Grid w A n c rows) :
    Calls Try.prog 123 #[.int .i64 m, .slice A n c, .int .i64 k] w fun e w' => e = .returned (.bool (decide (ofPlan m rows k))) ∧ Ext w w' := by
  have HI := hide h; clear h
  by_cases hp : planOk m rows
  · have HP := hide hp
    have hm10 : 2 ≤ m ∧ m ≤ 10 := hp.1.1
    have HF := hide (show decide (ofPlan m rows k) = decide (0 ≤ k ∧ k ≤ m - 1) by simp [ofPlan, hp])
    clear hp
    go_enter Try.func123, Try.ntmps123
    go_wp2_with (first | (go_at_call 130; refine (iPlanOk_any _ _ _ _ rows _ hm HI.out).mono ?_; rw [decide_eq_true HP.out]; rintro e w1 ⟨rfl, hE1⟩) | (go_at_call 94; refine (within_any _ _ _ _).mono ?_; rintro e w' ⟨rfl, rfl⟩))
    go_ret
    exact ⟨ret_bool (by rw [HF.out]; simp), hE1⟩
  · have HP := hide hp
    have HF := hide (show decide (ofPlan m rows k) = false by simp [ofPlan, hp])
    clear hp
    go_enter Try.func123, Try.ntmps123
    go_wp2_with (first | (go_at_call 130; refine (iPlanOk_any _ _ _ _ rows _ hm HI.out).mono ?_; rw [decide_eq_false HP.out]; rintro e w1 ⟨rfl, hE1⟩))
    go_ret
    exact ⟨ret_bool HF.out.symm, hE1⟩
-- impl.longestRun
def PredR (g : Nat) (lb : Array Value) (p : List Int → Bool) (rows : List (List Int)) (w : World) : Prop :=
  ∀ (W : World) (B : Option Addr) (d : Nat) (r : List Int), r ∈ rows → Ints W B r.length d r → Ext w W → Calls Try.prog g (#[.slice B r.length d] ++ lb) W fun e w' => e = .returned (.bool (p r)) ∧ Ext W w'
theorem longestRun_any (g : Nat) (lb : Array Value) (p : List Int → Bool) (eg : Enters Try.prog g) (A : Option Addr) (n c : Nat) (rows : List (List Int)) (w : World) (h : Grid w A n c rows) (hn : n ≤ 36) (hp : PredR g lb p rows w) :
    Calls Try.prog 126 #[.slice A n c, .func (.func g) #[] lb] w fun e w' => e = .returned (.int .i64 (runs p rows n).1) ∧ Ext w w' := by
  have hle := h.le
  have hmx := h.max
  have HL := hide h.len
  have HP := hide hp; clear hp
  unfold Enters at eg
  go_enter Try.func126, Try.ntmps126
  go_wp2
  go_loopw [5, 6, 11] (fun l r i wr => ∃ k : Nat, k ≤ n ∧ i = .int .i64 k ∧ l = .int .i64 (runs p rows k).1 ∧ r = .int .i64 (runs p rows k).2 ∧ Ext w wr) (fun _ _ i _ => n - (intOf i).toNat)
  case atStart => exact ⟨0, Nat.zero_le _, rfl, rfl, rfl, Ext.refl _⟩
  case round =>
    obtain ⟨k, hk, rfl, rfl, rfl, hE⟩ := hrel
    have HB := hide (runs_bound p rows k)
    by_cases hlt : k < n
    · obtain ⟨b, off, B, d, r, rfl, hb, hx, hc, hi⟩ := (h.ext hE).get hlt
      have HC := hide (HP.out wr B d r (List.mem_of_getElem? hx) hi hE)
      have hbd := HB.out
      have HE := hide hE; clear hE hi
      cases hpx : p r with
      | true =>
        rw [hpx] at HC
        have HR := hide (runs_yes hx hpx); clear hpx hx
        generalize runs p rows k = s at *
        obtain ⟨l, u⟩ := s
        simp only at hbd HR
        go_wp2_with (go_at_fn g; refine HC.out.mono ?_; rintro e w1 ⟨rfl, hE1⟩)
        go_roundw
        case rel => exact ⟨k + 1, by omega, by go_num, by rw [HR.out]; exact congrArg _ (by first | omega | (split <;> omega)), by rw [HR.out], HE.out.trans hE1⟩
        case measure => (simp [intOf] <;> omega)
      | false =>
        rw [hpx] at HC
        have HR := hide (runs_no hx hpx); clear hpx hx
        generalize runs p rows k = s at *
        obtain ⟨l, u⟩ := s
        simp only at hbd HR
        go_wp2_with (go_at_fn g; refine HC.out.mono ?_; rintro e w1 ⟨rfl, hE1⟩)
        go_roundw
        case rel => exact ⟨k + 1, by omega, by go_num, by rw [HR.out]; exact congrArg _ (by first | omega | (split <;> omega)), by rw [HR.out], HE.out.trans hE1⟩
        case measure => (simp [intOf] <;> omega)
    · have hke : k = n := by omega
      subst hke
      have HE := hide hE; clear hE
      go_wp2
      go_ret
      exact ⟨rfl, HE.out⟩

end Go.Proofs.Ytbaljgdepicigaa
