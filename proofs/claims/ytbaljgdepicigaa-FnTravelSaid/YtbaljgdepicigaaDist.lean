/-
  Contracts of the functions on distances.
-/
import Derived.Test.YtbaljgdepicigaaBase
import Derived.Test.YtbaljgdepicigaaMathA
import Derived.Test.YtbaljgdepicigaaMathD
import Derived.Test.YtbaljgdepicigaaLib
import Derived.Test.YtbaljgdepicigaaAid
import Derived.Test.YtbaljgdepicigaaGrid
import Derived.Test.YtbaljgdepicigaaLibF
import Derived.Test.YtbaljgdepicigaaMathT
namespace Go.Proofs.Ytbaljgdepicigaa
open Go.RowKit
set_option linter.unusedVariables false

-- impl.isClubs
theorem isClubs_any (n : Int) (w : World) :
    Calls Try.prog 122 #[.int .i64 n] w fun e w' => e = .returned (.bool (decide (clubs n))) ∧ w = w' := by
  by_cases h1 : 2 ≤ n ∧ n ≤ 10
  · obtain ⟨k, rfl⟩ : ∃ k : Nat, n = (k : Int) := ⟨n.toNat, by omega⟩
    by_cases h2 : k % 2 = 0
    · go_enter Try.func122, Try.ntmps122
      go_wp2_with (go_at_call 94; refine (within_any _ _ _ _).mono ?_; rintro e w' ⟨rfl, rfl⟩)
      go_ret
      exact ⟨ret_bool (by symm; rw [Bool.eq_iff_iff, decide_eq_true_eq, beq_iff_eq]; exact ⟨fun h => h.2, fun h => ⟨h1, h⟩⟩), rfl⟩
    · go_enter Try.func122, Try.ntmps122
      go_wp2_with (go_at_call 94; refine (within_any _ _ _ _).mono ?_; rintro e w' ⟨rfl, rfl⟩)
      go_ret
      exact ⟨ret_bool (by symm; rw [Bool.eq_iff_iff, decide_eq_true_eq, beq_iff_eq]; exact ⟨fun h => h.2, fun h => ⟨h1, h⟩⟩), rfl⟩
  · go_enter Try.func122, Try.ntmps122
    go_wp2_with (go_at_call 94; refine (within_any _ _ _ _).mono ?_; rw [decide_eq_false h1]; rintro e w' ⟨rfl, rfl⟩)
    go_ret
    exact ⟨ret_bool (by symm; rw [decide_eq_false_iff_not]; intro h; exact h1 h.1), rfl⟩
-- spec.l16Size
theorem l16Size_any (n : Int) (w : World) :
    Calls Try.prog 176 #[.int .i64 n] w fun e w' => e = .returned (.bool (decide (clubs n))) ∧ w = w' := by
  by_cases h1 : 2 ≤ n ∧ n ≤ 10
  · obtain ⟨k, rfl⟩ : ∃ k : Nat, n = (k : Int) := ⟨n.toNat, by omega⟩
    by_cases h2 : k % 2 = 0
    · go_enter Try.func176, Try.ntmps176
      go_wp2_with (go_at_call 146; refine (l01In_any _ _ _ _).mono ?_; rintro e w' ⟨rfl, rfl⟩)
      go_ret
      exact ⟨ret_bool (by symm; rw [Bool.eq_iff_iff, decide_eq_true_eq, beq_iff_eq]; exact ⟨fun h => h.2, fun h => ⟨h1, h⟩⟩), rfl⟩
    · go_enter Try.func176, Try.ntmps176
      go_wp2_with (go_at_call 146; refine (l01In_any _ _ _ _).mono ?_; rintro e w' ⟨rfl, rfl⟩)
      go_ret
      exact ⟨ret_bool (by symm; rw [Bool.eq_iff_iff, decide_eq_true_eq, beq_iff_eq]; exact ⟨fun h => h.2, fun h => ⟨h1, h⟩⟩), rfl⟩
  · go_enter Try.func176, Try.ntmps176
    go_wp2_with (go_at_call 146; refine (l01In_any _ _ _ _).mono ?_; rw [decide_eq_false h1]; rintro e w' ⟨rfl, rfl⟩)
    go_ret
    exact ⟨ret_bool (by symm; rw [decide_eq_false_iff_not]; intro h; exact h1 h.1), rfl⟩
-- impl.DistancesOk
theorem iDistOk_any (m : Int) (A : Option Addr) (n c : Nat) (rows : List (List Int)) (w : World) (hm : I64 m) (h : Grid w A n c rows) :
    Calls Try.prog 54 #[.int .i64 m, .slice A n c] w fun e w' => e = .returned (.bool (decide (distOk m rows))) ∧ Ext w w' := by
  have HL := hide h.len
  have hle := h.le
  have hmx := h.max
  by_cases hcl : clubs m
  · have HC := hide hcl
    obtain ⟨k, rfl⟩ : ∃ k : Nat, m = (k : Int) := ⟨m.toNat, by have := hcl.1; omega⟩
    have h10 : k ≤ 10 := by have := hcl.1; omega
    clear hcl
    by_cases hnk : n = k
    · subst hnk
      go_enter Try.func54, Try.ntmps54
      go_wp2_with (go_at_call 122; refine (isClubs_any _ _).mono ?_; rw [decide_eq_true HC.out]; rintro e w' ⟨rfl, rfl⟩)
      go_loopw [22] (fun i wr => ∃ k : Nat, k ≤ n ∧ i = .int .i64 k ∧ Hid ((∀ r ∈ rows.take k, rowOk n r) ∧ ∀ a, a < k → at2 rows a a = 0) ∧ Ext w wr) (fun i _ => n - (intOf i).toNat)
      case atStart => exact ⟨0, Nat.zero_le _, rfl, hide ⟨by simp, fun a ha => absurd ha (Nat.not_lt_zero _)⟩, Ext.refl _⟩
      case round =>
        obtain ⟨a, ha, rfl, HV, hE⟩ := hrel
        by_cases hlt : a < n
        · obtain ⟨b, off, B, d, r, rfl, hb, hx, hc, hi⟩ := (h.ext hE).get hlt
          have HX := hide hx; have HE := hide hE
          have hrd := hi.le
          have hrm := hi.rd.max
          clear hx hE
          by_cases hrl : r.length = n
          · have hb0 : ((r.length : Int) != (n : Int)) = false := by simp [hrl]
            have hrl' : a < r.length := by omega
            have HRL := hide hrl
            clear hrl
            by_cases hall : ∀ x ∈ r, 0 ≤ x ∧ x ≤ 1000
            · obtain ⟨b1, o1, x, rfl, hb1, hx1, wx, hc1⟩ := hi.get hrl'
              have HI := hide hi
              have HA := hide hall
              have HG := hide (at2_get HX.out hx1)
              clear hall hi hx1
              by_cases hx0 : x = 0
              · subst hx0
                go_wp2_with (go_at_call 88; refine (allWithin_any _ _ _ r _ _ _ HI.out).mono ?_; rw [decide_eq_true HA.out]; rintro e w1 ⟨rfl, hE1⟩; replace hc1 := hE1.get hc1)
                go_roundw
                case rel =>
                  refine ⟨a + 1, by omega, by go_num, hide ⟨?_, fun a' ha' => ?_⟩, HE.out.trans hE1⟩
                  · rw [take_snoc_of HX.out]
                    intro z hz
                    rcases List.mem_append.1 hz with hz | hz
                    · exact HV.out.1 z hz
                    · obtain rfl : z = r := by simpa using hz
                      exact ⟨by rw [HRL.out], HA.out⟩
                  · by_cases e : a' = a
                    · subst e; exact HG.out
                    · exact HV.out.2 a' (by omega)
                case measure => (simp [intOf] <;> omega)
              · have hxb : (x != 0) = true := by simpa using hx0
                have HN := hide (show ¬ distOk (n : Int) rows from fun hd => hx0 (by rw [← HG.out]; exact (hd.2.2.2 a (by have := HL.out; omega)).1))
                clear hx0
                go_wp2_with (go_at_call 88; refine (allWithin_any _ _ _ r _ _ _ HI.out).mono ?_; rw [decide_eq_true HA.out]; rintro e w1 ⟨rfl, hE1⟩; replace hc1 := hE1.get hc1)
                go_ret
                exact ⟨ret_bool (by symm; rw [decide_eq_false_iff_not]; exact HN.out), HE.out.trans hE1⟩
            · have HI := hide hi
              have HA := hide hall
              have HN := hide (show ¬ distOk (n : Int) rows from fun hd => HA.out (hd.2.2.1 r (List.mem_of_getElem? HX.out)).2)
              clear hall hi
              go_wp2_with (go_at_call 88; refine (allWithin_any _ _ _ r _ _ _ HI.out).mono ?_; rw [decide_eq_false HA.out]; rintro e w1 ⟨rfl, hE1⟩)
              go_ret
              exact ⟨ret_bool (by symm; rw [decide_eq_false_iff_not]; exact HN.out), HE.out.trans hE1⟩
          · have hb0 : ((r.length : Int) != (n : Int)) = true := by rw [bne_iff_ne]; omega
            have HN := hide (show ¬ distOk (n : Int) rows from fun hd => hrl (by have := (hd.2.2.1 r (List.mem_of_getElem? HX.out)).1; omega))
            clear hrl
            go_wp2
            go_ret
            exact ⟨ret_bool (by symm; rw [decide_eq_false_iff_not]; exact HN.out), HE.out⟩
        · have hke : a = n := by omega
          subst hke
          have HV2 := hide (show (∀ r ∈ rows, rowOk (a : Int) r) ∧ ∀ k, k < a → at2 rows k k = 0 by have hv := HV.out; rw [take_len HL.out] at hv; exact hv)
          have HE := hide hE; clear hE
          go_wp2
          obtain ⟨w0, rfl⟩ : ∃ w0 : World, w0 = wr := ⟨_, rfl⟩
          go_loop [46] (fun i => ∃ k : Nat, k ≤ a ∧ i = .int .i64 k ∧ Hid (∀ p, p < k → ∀ q, q < a → at2 rows q p = at2 rows p q)) (fun i => a - (intOf i).toNat)
          case atStart => exact ⟨0, Nat.zero_le _, rfl, hide (fun p hp => absurd hp (Nat.not_lt_zero _))⟩
          case round =>
            obtain ⟨p, hp, rfl, HW⟩ := hrel
            by_cases hlt2 : p < a
            · obtain ⟨b, off, B, d, r, rfl, hb, hx, hc, hi⟩ := (h.ext HE.out).get hlt2
              have hrk := (HV2.out.1 r (List.mem_of_getElem? hx)).1
              have hrl : r.length = a := by omega
              have HX := hide hx
              have HI := hide hi
              have hrd := hi.le
              have hrm := hi.rd.max
              clear hx hi hrk
              go_wp2
              go_loop [53] (fun i => ∃ k : Nat, k ≤ a ∧ i = .int .i64 k ∧ Hid (∀ q, q < k → at2 rows q p = at2 rows p q)) (fun i => a - (intOf i).toNat)
              case atStart => exact ⟨0, Nat.zero_le _, rfl, hide (fun p hp => absurd hp (Nat.not_lt_zero _))⟩
              case round =>
                obtain ⟨q, hq, rfl, HU⟩ := hrel
                by_cases hlt3 : q < a
                · obtain ⟨b1, o1, x, rfl, hb1, hx1, wx, hc1⟩ := HI.out.get (k := q) (by omega)
                  obtain ⟨b2, off2, B2, d2, r2, e2, hb2, hx2, hc2, hi2⟩ := (h.ext HE.out).get hlt3
                  cases e2
                  have hrk2 := (HV2.out.1 r2 (List.mem_of_getElem? hx2)).1
                  have hrl2 : r2.length = a := by omega
                  obtain ⟨b3, o3, y, rfl, hb3, hx3, wy, hc3⟩ := hi2.get (k := p) (by omega)
                  have HG1 := hide (at2_get HX.out hx1)
                  have HG2 := hide (at2_get hx2 hx3)
                  clear hx1 hx2 hx3 hi2 hrk2
                  by_cases hyx : y = x
                  · subst hyx
                    have hyb : (y != y) = false := by simp
                    go_wp2
                    go_round
                    case rel =>
                      refine ⟨q + 1, by omega, by go_num, hide (fun q' hq' => ?_)⟩
                      by_cases e : q' = q
                      · subst e; rw [HG1.out, HG2.out]
                      · exact HU.out q' (by omega)
                    case measure => (simp [intOf] <;> omega)
                  · have hyb : (y != x) = true := by simpa using hyx
                    have HN := hide (show ¬ distOk (a : Int) rows from fun hd => hyx (by rw [← HG1.out, ← HG2.out]; exact dist_sym hd (by have := HL.out; omega) (by have := HL.out; omega)))
                    clear hyx
                    go_wp2
                    go_ret
                    exact ⟨ret_bool (by symm; rw [decide_eq_false_iff_not]; exact HN.out), HE.out⟩
                · have hqe : q = a := by omega
                  have HQ := hide hqe
                  clear hqe
                  go_wp2
                  go_round
                  case rel =>
                    refine ⟨p + 1, by omega, by go_num, hide (fun p' hp' q' hq' => ?_)⟩
                    by_cases e : p' = p
                    · subst e; exact HU.out q' (by have := HQ.out; omega)
                    · exact HW.out p' (by omega) q' hq'
                  case measure => (simp [intOf] <;> omega)
            · have hpe : p = a := by omega
              have HQ := hide hpe
              clear hpe
              go_wp2
              go_ret
              exact ⟨ret_bool (by symm; rw [decide_eq_true_eq]; exact ⟨HC.out, by rw [HL.out], HV2.out.1, fun k hk => ⟨HV2.out.2 k (by have := HL.out; omega), fun q hq => (HW.out k (by have := HL.out; have := HQ.out; omega) q (by have := HL.out; omega)).symm⟩⟩), HE.out⟩
    · have hne : ((n : Int) != (k : Int)) = true := by rw [bne_iff_ne]; omega
      go_enter Try.func54, Try.ntmps54
      go_wp2_with (go_at_call 122; refine (isClubs_any _ _).mono ?_; rw [decide_eq_true HC.out]; rintro e w' ⟨rfl, rfl⟩)
      go_ret
      exact ⟨ret_bool (by symm; rw [decide_eq_false_iff_not]; intro hd; have := hd.2.1; have := HL.out; omega), Ext.refl _⟩
  · have HC := hide hcl; clear hcl
    go_enter Try.func54, Try.ntmps54
    go_wp2_with (go_at_call 122; refine (isClubs_any _ _).mono ?_; rw [decide_eq_false HC.out]; rintro e w' ⟨rfl, rfl⟩)
    go_ret
    exact ⟨ret_bool (by symm; rw [decide_eq_false_iff_not]; exact fun hd => HC.out hd.1), Ext.refl _⟩
-- impl.IsMetric
theorem iMetric_any (m : Int) (A : Option Addr) (n c : Nat) (rows : List (List Int)) (w : World) (hm : I64 m) (h : Grid w A n c rows) :
    Calls Try.prog 55 #[.int .i64 m, .slice A n c] w fun e w' => e = .returned (.bool (decide (isMetric m rows))) ∧ Ext w w' := by
  have HL := hide h.len
  have hle := h.le
  have hmx := h.max
  by_cases hd : distOk m rows
  · have HD := hide hd
    have hmn : m = (n : Int) := by have := hd.2.1; have := HL.out; omega
    subst hmn
    have h10 : n ≤ 10 := by have := hd.1.1; omega
    clear hd
    go_enter Try.func55, Try.ntmps55
    go_wp2_with (go_at_call 54; refine (iDistOk_any _ _ _ _ rows _ hm h).mono ?_; rw [decide_eq_true HD.out]; rintro e w1 ⟨rfl, hE1⟩)
    have HE1 := hide hE1; clear hE1
    go_loopw [13] (fun i wr => ∃ k : Nat, k ≤ n ∧ i = .int .i64 k ∧ Hid (∀ a, a < k → ∀ b, b < n → ∀ c, c < n → at2 rows a c ≤ at2 rows a b + at2 rows b c) ∧ Ext w wr) (fun i _ => n - (intOf i).toNat)
    case atStart => exact ⟨0, Nat.zero_le _, rfl, hide (fun a ha => absurd ha (Nat.not_lt_zero _)), HE1.out⟩
    case round =>
      obtain ⟨a, ha, rfl, HV, hE⟩ := hrel
      by_cases hlt : a < n
      · have HE := hide hE; clear hE
        go_wp2
        obtain ⟨w0, rfl⟩ : ∃ w0 : World, w0 = wr := ⟨_, rfl⟩
        go_loopw [17] (fun i wr => ∃ k : Nat, k ≤ n ∧ i = .int .i64 k ∧ Hid (∀ b, b < k → ∀ c, c < n → at2 rows a c ≤ at2 rows a b + at2 rows b c) ∧ Ext w wr) (fun i _ => n - (intOf i).toNat)
        case atStart => exact ⟨0, Nat.zero_le _, rfl, hide (fun b hb => absurd hb (Nat.not_lt_zero _)), HE.out⟩
        case round =>
          obtain ⟨b, hb, rfl, HW, hE2⟩ := hrel
          by_cases hlt2 : b < n
          · have HE2 := hide hE2; clear hE2
            go_wp2
            obtain ⟨w2, rfl⟩ : ∃ w2 : World, w2 = wr := ⟨_, rfl⟩
            go_loopw [21] (fun i wr => ∃ k : Nat, k ≤ n ∧ i = .int .i64 k ∧ Hid (∀ c, c < k → at2 rows a c ≤ at2 rows a b + at2 rows b c) ∧ Ext w wr) (fun i _ => n - (intOf i).toNat)
            case atStart => exact ⟨0, Nat.zero_le _, rfl, hide (fun c hc => absurd hc (Nat.not_lt_zero _)), HE2.out⟩
            case round =>
              obtain ⟨q, hq, rfl, HU, hE3⟩ := hrel
              by_cases hlt3 : q < n
              · obtain ⟨g1, o1, B1, d1, r1, rfl, hg1, hx1, hc1, hi1⟩ := (h.ext hE3).get hlt
                obtain ⟨g2, o2, B2, d2, r2, e2, hg2, hx2, hc2, hi2⟩ := (h.ext hE3).get (k := b) (by omega)
                cases e2
                have l1 := dist_cell HD.out hx1
                have l2 := dist_cell HD.out hx2
                have l3 := HL.out
                obtain ⟨g3, o3, x, rfl, hg3, hx3, wx, hc3⟩ := hi1.get (k := b) (by omega)
                obtain ⟨g4, o4, y, e4, hg4, hx4, wy, hc4⟩ := hi1.get (k := q) (by omega)
                cases e4
                obtain ⟨g5, o5, z, rfl, hg5, hx5, wz, hc5⟩ := hi2.get (k := q) (by omega)
                have HG1 := hide (at2_get hx1 hx3)
                have HG2 := hide (at2_get hx1 hx4)
                have HG3 := hide (at2_get hx2 hx5)
                have v1 := (HD.out.2.2.1 r1 (List.mem_of_getElem? hx1)).2 x (List.mem_of_getElem? hx3)
                have v2 := (HD.out.2.2.1 r1 (List.mem_of_getElem? hx1)).2 y (List.mem_of_getElem? hx4)
                have v3 := (HD.out.2.2.1 r2 (List.mem_of_getElem? hx2)).2 z (List.mem_of_getElem? hx5)
                have L1 := hide l1; have L2 := hide l2
                have hrd1 := hi1.le
                have hrd2 := hi2.le
                have hb1' : b < r1.length := by omega
                have hq1' : q < r1.length := by omega
                have hz1' : q < r2.length := by omega
                have HE3 := hide hE3
                clear hx1 hx2 hx3 hx4 hx5 hi1 hi2 l1 l2 l3 hE3
                have hw1 : IntKind.i64.wrap (x + z) = x + z := by simp [IntKind.wrap, IntKind.bits, IntKind.signed]; omega
                by_cases hlt4 : y ≤ x + z
                · have hb4 : decide (x + z < y) = false := by simp; omega
                  go_wp2
                  go_quiet (fail)
                  go_wp2
                  go_roundw
                  case rel =>
                    refine ⟨q + 1, by omega, by go_num, hide (fun q' hq' => ?_), HE3.out.drewN _⟩
                    by_cases e : q' = q
                    · subst e; rw [HG1.out, HG2.out, HG3.out]; exact hlt4
                    · exact HU.out q' (by omega)
                  case measure => (simp [intOf] <;> omega)
                · have hb4 : decide (x + z < y) = true := by simp; omega
                  have HN := hide (show ¬ isMetric (n : Int) rows from (fun hd => hlt4 (by have := hd.2 a (by have := HL.out; omega) b (by have := HL.out; omega) q (by have := HL.out; omega); rw [HG1.out, HG2.out, HG3.out] at this; exact this)))
                  go_wp2
                  go_quiet (fail)
                  go_wp2
                  go_ret
                  exact ⟨ret_bool (by symm; rw [decide_eq_false_iff_not]; exact HN.out), HE3.out.drewN _⟩
              · have hqe : q = n := by omega
                have HQ := hide hqe; clear hqe
                have HE3 := hide hE3; clear hE3
                go_wp2
                go_roundw
                case rel =>
                  refine ⟨b + 1, by omega, by go_num, hide (fun b' hb' c' hc' => ?_), HE3.out⟩
                  by_cases e : b' = b
                  · subst e; exact HU.out c' (by have := HQ.out; omega)
                  · exact HW.out b' (by omega) c' hc'
                case measure => (simp [intOf] <;> omega)
          · have hqe : b = n := by omega
            have HQ := hide hqe; clear hqe
            have HE2 := hide hE2; clear hE2
            go_wp2
            go_roundw
            case rel =>
              refine ⟨a + 1, by omega, by go_num, hide (fun a' ha' b' hb' c' hc' => ?_), HE2.out⟩
              by_cases e : a' = a
              · subst e; exact HW.out b' (by have := HQ.out; omega) c' hc'
              · exact HV.out a' (by omega) b' hb' c' hc'
            case measure => (simp [intOf] <;> omega)
      · have hqe : a = n := by omega
        have HQ := hide hqe; clear hqe
        have HE := hide hE; clear hE
        go_wp2
        go_ret
        exact ⟨ret_bool (by symm; rw [decide_eq_true_eq]; have := HQ.out; exact ⟨HD.out, fun a ha b hb c hc => HV.out a (by have := HL.out; omega) b (by have := HL.out; omega) c (by have := HL.out; omega)⟩), HE.out⟩
  · have HD := hide hd; clear hd
    go_enter Try.func55, Try.ntmps55
    go_wp2_with (go_at_call 54; refine (iDistOk_any _ _ _ _ rows _ hm h).mono ?_; rw [decide_eq_false HD.out]; rintro e w1 ⟨rfl, hE1⟩)
    go_ret
    exact ⟨ret_bool (by symm; rw [decide_eq_false_iff_not]; exact fun hh => HD.out hh.1), hE1⟩

end Go.Proofs.Ytbaljgdepicigaa
