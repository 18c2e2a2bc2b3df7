/-
  Contracts of the functions on distances.
-/
import Derived.Test.YtafhcnnbiheofaaBase
import Derived.Test.YtafhcnnbiheofaaMathA
import Derived.Test.YtafhcnnbiheofaaMathD
import Derived.Test.YtafhcnnbiheofaaLib
import Derived.Test.YtafhcnnbiheofaaAid
import Derived.Test.YtafhcnnbiheofaaGrid
import Derived.Test.YtafhcnnbiheofaaLibF
import Derived.Test.YtafhcnnbiheofaaMathT
namespace Go.Proofs.Ytafhcnnbiheofaa
open Go.RowKit
set_option linter.unusedVariables false

-- impl.isClubs
theorem isClubs_any (n : Int) (w : World) :
    Calls Try.prog 111 #[.int .i64 n] w fun e w' => e = .returned (.bool (decide (clubs n))) ∧ w = w' := by
  by_cases h1 : 2 ≤ n ∧ n ≤ 10
  · obtain ⟨k, rfl⟩ : ∃ k : Nat, n = (k : Int) := ⟨n.toNat, by omega⟩
    by_cases h2 : k % 2 = 0
    · go_enter Try.func111, Try.ntmps111
      go_wp2_with (go_at_call 70; refine (within_any _ _ _ _).mono ?_; rintro e w' ⟨rfl, rfl⟩)
      go_ret
      exact ⟨ret_bool (by symm; rw [Bool.eq_iff_iff, decide_eq_true_eq, beq_iff_eq]; exact ⟨fun h => h.2, fun h => ⟨h1, h⟩⟩), rfl⟩
    · go_enter Try.func111, Try.ntmps111
      go_wp2_with (go_at_call 70; refine (within_any _ _ _ _).mono ?_; rintro e w' ⟨rfl, rfl⟩)
      go_ret
      exact ⟨ret_bool (by symm; rw [Bool.eq_iff_iff, decide_eq_true_eq, beq_iff_eq]; exact ⟨fun h => h.2, fun h => ⟨h1, h⟩⟩), rfl⟩
  · go_enter Try.func111, Try.ntmps111
    go_wp2_with (go_at_call 70; refine (within_any _ _ _ _).mono ?_; rw [decide_eq_false h1]; rintro e w' ⟨rfl, rfl⟩)
    go_ret
    exact ⟨ret_bool (by symm; rw [decide_eq_false_iff_not]; intro h; exact h1 h.1), rfl⟩
-- spec.l16Size
theorem l16Size_any (n : Int) (w : World) :
    Calls Try.prog 109 #[.int .i64 n] w fun e w' => e = .returned (.bool (decide (clubs n))) ∧ w = w' := by
  by_cases h1 : 2 ≤ n ∧ n ≤ 10
  · obtain ⟨k, rfl⟩ : ∃ k : Nat, n = (k : Int) := ⟨n.toNat, by omega⟩
    by_cases h2 : k % 2 = 0
    · go_enter Try.func109, Try.ntmps109
      go_wp2_with (go_at_call 67; refine (l01In_any _ _ _ _).mono ?_; rintro e w' ⟨rfl, rfl⟩)
      go_ret
      exact ⟨ret_bool (by symm; rw [Bool.eq_iff_iff, decide_eq_true_eq, beq_iff_eq]; exact ⟨fun h => h.2, fun h => ⟨h1, h⟩⟩), rfl⟩
    · go_enter Try.func109, Try.ntmps109
      go_wp2_with (go_at_call 67; refine (l01In_any _ _ _ _).mono ?_; rintro e w' ⟨rfl, rfl⟩)
      go_ret
      exact ⟨ret_bool (by symm; rw [Bool.eq_iff_iff, decide_eq_true_eq, beq_iff_eq]; exact ⟨fun h => h.2, fun h => ⟨h1, h⟩⟩), rfl⟩
  · go_enter Try.func109, Try.ntmps109
    go_wp2_with (go_at_call 67; refine (l01In_any _ _ _ _).mono ?_; rw [decide_eq_false h1]; rintro e w' ⟨rfl, rfl⟩)
    go_ret
    exact ⟨ret_bool (by symm; rw [decide_eq_false_iff_not]; intro h; exact h1 h.1), rfl⟩
-- impl.DistancesOk
theorem iDistOk_any (m : Int) (A : Option Addr) (n c : Nat) (rows : List (List Int)) (w : World) (hm : I64 m) (h : Grid w A n c rows) :
    Calls Try.prog 69 #[.int .i64 m, .slice A n c] w fun e w' => e = .returned (.bool (decide (distOk m rows))) ∧ Ext w w' := by
  have HL := hide h.len
  have hle := h.le
  have hmx := h.max
  by_cases hcl : clubs m
  · have HC := hide hcl
    obtain ⟨k, rfl⟩ : ∃ k : Nat, m = (k : Int) := ⟨m.toNat, by have := hcl.1; omega⟩
    have h10 : k ≤ 10 := by have := hcl.1; omega
    clear hcl
    by_cases hnk : n = k
    · subst hnk
      go_enter Try.func69, Try.ntmps69
      go_wp2_with (go_at_call 111; refine (isClubs_any _ _).mono ?_; rw [decide_eq_true HC.out]; rintro e w' ⟨rfl, rfl⟩)
      go_loopw [22] (fun i wr => ∃ k : Nat, k ≤ n ∧ i = .int .i64 k ∧ Hid ((∀ r ∈ rows.take k, rowOk n r) ∧ ∀ a, a < k → at2 rows a a = 0) ∧ Ext w wr) (fun i _ => n - (intOf i).toNat)
      case atStart => exact ⟨0, Nat.zero_le _, rfl, hide ⟨by simp, fun a ha => absurd ha (Nat.not_lt_zero _)⟩, Ext.refl _⟩
      case round =>
        obtain ⟨a, ha, rfl, HV, hE⟩ := hrel
        by_cases hlt : a < n
        · obtain ⟨b, off, B, d, r, rfl, hb, hx, hc, hi⟩ := (h.ext hE).get hlt
          have HX := hide hx; have HE := hide hE
          have hrd := hi.le
          have hrm := hi.rd.max
          clear hx hE
          by_cases hrl : r.length = n
          · have hb0 : ((r.length : Int) != (n : Int)) = false := by simp [hrl]
            have hrl' : a < r.length := by omega
            have HRL := hide hrl
            clear hrl
            by_cases hall : ∀ x ∈ r, 0 ≤ x ∧ x ≤ 1000
            · obtain ⟨b1, o1, x, rfl, hb1, hx1, wx, hc1⟩ := hi.get hrl'
              have HI := hide hi
              have HA := hide hall
              have HG := hide (at2_get HX.out hx1)
              clear hall hi hx1
              by_cases hx0 : x = 0
              · subst hx0
                go_wp2_with (go_at_call 103; refine (allWithin_any _ _ _ r _ _ _ HI.out).mono ?_; rw [decide_eq_true HA.out]; rintro e w1 ⟨rfl, hE1⟩; replace hc1 := hE1.get hc1)
                go_roundw
                case rel =>
                  refine ⟨a + 1, by omega, by go_num, hide ⟨?_, fun a' ha' => ?_⟩, HE.out.trans hE1⟩
                  · rw [take_snoc_of HX.out]
                    intro z hz
                    rcases List.mem_append.1 hz with hz | hz
                    · exact HV.out.1 z hz
                    · obtain rfl : z = r := by simpa using hz
                      exact ⟨by rw [HRL.out], HA.out⟩
                  · by_cases e : a' = a
                    · subst e; exact HG.out
                    · exact HV.out.2 a' (by omega)
                case measure => (simp [intOf] <;> omega)
              · have hxb : (x != 0) = true := by simpa using hx0
                have HN := hide (show ¬ distOk (n : Int) rows from fun hd => hx0 (by rw [← HG.out]; exact (hd.2.2.2 a (by have := HL.out; omega)).1))
                clear hx0
                go_wp2_with (go_at_call 103; refine (allWithin_any _ _ _ r _ _ _ HI.out).mono ?_; rw [decide_eq_true HA.out]; rintro e w1 ⟨rfl, hE1⟩; replace hc1 := hE1.get hc1)
                go_ret
                exact ⟨ret_bool (by symm; rw [decide_eq_false_iff_not]; exact HN.out), HE.out.trans hE1⟩
            · have HI := hide hi
              have HA := hide hall
              have HN := hide (show ¬ distOk (n : Int) rows from fun hd => HA.out (hd.2.2.1 r (List.mem_of_getElem? HX.out)).2)
              clear hall hi
              go_wp2_with (go_at_call 103; refine (allWithin_any _ _ _ r _ _ _ HI.out).mono ?_; rw [decide_eq_false HA.out]; rintro e w1 ⟨rfl, hE1⟩)
              go_ret
              exact ⟨ret_bool (by symm; rw [decide_eq_false_iff_not]; exact HN.out), HE.out.trans hE1⟩
          · have hb0 : ((r.length : Int) != (n : Int)) = true := by rw [bne_iff_ne]; omega
            have HN := hide (show ¬ distOk (n : Int) rows from fun hd => hrl (by have := (hd.2.2.1 r (List.mem_of_getElem? HX.out)).1; omega))
            clear hrl
            go_wp2
            go_ret
            exact ⟨ret_bool (by symm; rw [decide_eq_false_iff_not]; exact HN.out), HE.out⟩
        · have hke : a = n := by omega
          subst hke
          have HV2 := hide (show (∀ r ∈ rows, rowOk (a : Int) r) ∧ ∀ k, k < a → at2 rows k k = 0 by have hv := HV.out; rw [take_len HL.out] at hv; exact hv)
          have HE := hide hE; clear hE
          go_wp2
          obtain ⟨w0, rfl⟩ : ∃ w0 : World, w0 = wr := ⟨_, rfl⟩
          go_loop [46] (fun i => ∃ k : Nat, k ≤ a ∧ i = .int .i64 k ∧ Hid (∀ p, p < k → ∀ q, q < a → at2 rows q p = at2 rows p q)) (fun i => a - (intOf i).toNat)
          case atStart => exact ⟨0, Nat.zero_le _, rfl, hide (fun p hp => absurd hp (Nat.not_lt_zero _))⟩
          case round =>
            obtain ⟨p, hp, rfl, HW⟩ := hrel
            by_cases hlt2 : p < a
            · obtain ⟨b, off, B, d, r, rfl, hb, hx, hc, hi⟩ := (h.ext HE.out).get hlt2
              have hrk := (HV2.out.1 r (List.mem_of_getElem? hx)).1
              have hrl : r.length = a := by omega
              have HX := hide hx
              have HI := hide hi
              have hrd := hi.le
              have hrm := hi.rd.max
              clear hx hi hrk
              go_wp2
              go_loop [53] (fun i => ∃ k : Nat, k ≤ a ∧ i = .int .i64 k ∧ Hid (∀ q, q < k → at2 rows q p = at2 rows p q)) (fun i => a - (intOf i).toNat)
              case atStart => exact ⟨0, Nat.zero_le _, rfl, hide (fun p hp => absurd hp (Nat.not_lt_zero _))⟩
              case round =>
                obtain ⟨q, hq, rfl, HU⟩ := hrel
                by_cases hlt3 : q < a
                · obtain ⟨b1, o1, x, rfl, hb1, hx1, wx, hc1⟩ := HI.out.get (k := q) (by omega)
                  obtain ⟨b2, off2, B2, d2, r2, e2, hb2, hx2, hc2, hi2⟩ := (h.ext HE.out).get hlt3
                  cases e2
                  have hrk2 := (HV2.out.1 r2 (List.mem_of_getElem? hx2)).1
                  have hrl2 : r2.length = a := by omega
                  obtain ⟨b3, o3, y, rfl, hb3, hx3, wy, hc3⟩ := hi2.get (k := p) (by omega)
                  have HG1 := hide (at2_get HX.out hx1)
                  have HG2 := hide (at2_get hx2 hx3)
                  clear hx1 hx2 hx3 hi2 hrk2
                  by_cases hyx : y = x
                  · subst hyx
                    have hyb : (y != y) = false := by simp
                    go_wp2
                    go_round
                    case rel =>
                      refine ⟨q + 1, by omega, by go_num, hide (fun q' hq' => ?_)⟩
                      by_cases e : q' = q
                      · subst e; rw [HG1.out, HG2.out]
                      · exact HU.out q' (by omega)
                    case measure => (simp [intOf] <;> omega)
                  · have hyb : (y != x) = true := by simpa using hyx
                    have HN := hide (show ¬ distOk (a : Int) rows from fun hd => hyx (by rw [← HG1.out, ← HG2.out]; exact dist_sym hd (by have := HL.out; omega) (by have := HL.out; omega)))
                    clear hyx
                    go_wp2
                    go_ret
                    exact ⟨ret_bool (by symm; rw [decide_eq_false_iff_not]; exact HN.out), HE.out⟩
                · have hqe : q = a := by omega
                  have HQ := hide hqe
                  clear hqe
                  go_wp2
                  go_round
                  case rel =>
                    refine ⟨p + 1, by omega, by go_num, hide (fun p' hp' q' hq' => ?_)⟩
                    by_cases e : p' = p
                    · subst e; exact HU.out q' (by have := HQ.out; omega)
                    · exact HW.out p' (by omega) q' hq'
                  case measure => (simp [intOf] <;> omega)
            · have hpe : p = a := by omega
              have HQ := hide hpe
              clear hpe
              go_wp2
              go_ret
              exact ⟨ret_bool (by symm; rw [decide_eq_true_eq]; exact ⟨HC.out, by rw [HL.out], HV2.out.1, fun k hk => ⟨HV2.out.2 k (by have := HL.out; omega), fun q hq => (HW.out k (by have := HL.out; have := HQ.out; omega) q (by have := HL.out; omega)).symm⟩⟩), HE.out⟩
    · have hne : ((n : Int) != (k : Int)) = true := by rw [bne_iff_ne]; omega
      go_enter Try.func69, Try.ntmps69
      go_wp2_with (go_at_call 111; refine (isClubs_any _ _).mono ?_; rw [decide_eq_true HC.out]; rintro e w' ⟨rfl, rfl⟩)
      go_ret
      exact ⟨ret_bool (by symm; rw [decide_eq_false_iff_not]; intro hd; have := hd.2.1; have := HL.out; omega), Ext.refl _⟩
  · have HC := hide hcl; clear hcl
    go_enter Try.func69, Try.ntmps69
    go_wp2_with (go_at_call 111; refine (isClubs_any _ _).mono ?_; rw [decide_eq_false HC.out]; rintro e w' ⟨rfl, rfl⟩)
    go_ret
    exact ⟨ret_bool (by symm; rw [decide_eq_false_iff_not]; exact fun hd => HC.out hd.1), Ext.refl _⟩
-- spec.DistancesOk
theorem sDistOk_any (m : Int) (A : Option Addr) (n c : Nat) (rows : List (List Int)) (w : World) (hm : I64 m) (h : Grid w A n c rows) :
    Calls Try.prog 66 #[.int .i64 m, .slice A n c] w fun e w' => e = .returned (.bool (decide (distOk m rows))) ∧ w = w' := by
  have HL := hide h.len
  have hle := h.le
  have hmx := h.max
  by_cases hcl : clubs m
  · have HC := hide hcl
    obtain ⟨k, rfl⟩ : ∃ k : Nat, m = (k : Int) := ⟨m.toNat, by have := hcl.1; omega⟩
    have h10 : k ≤ 10 := by have := hcl.1; omega
    clear hcl
    by_cases hnk : n = k
    · subst hnk
      go_enter Try.func66, Try.ntmps66
      go_wp2_with (go_at_call 109; refine (l16Size_any _ _).mono ?_; rw [decide_eq_true HC.out]; rintro e w' ⟨rfl, rfl⟩)
      go_loop [20] (fun i => ∃ k : Nat, k ≤ n ∧ i = .int .i64 k ∧ Hid ((∀ r ∈ rows.take k, rowOk n r) ∧ ∀ a, a < k → at2 rows a a = 0 ∧ ∀ b, b < a → at2 rows a b = at2 rows b a)) (fun i => n - (intOf i).toNat)
      case atStart => exact ⟨0, Nat.zero_le _, rfl, hide ⟨by simp, fun a ha => absurd ha (Nat.not_lt_zero _)⟩⟩
      case round =>
        obtain ⟨a, ha, rfl, HV⟩ := hrel
        by_cases hlt : a < n
        · obtain ⟨b, off, B, d, r, rfl, hb, hx, hc, hi⟩ := h.get hlt
          have HX := hide hx
          have hrd := hi.le
          have hrm := hi.rd.max
          clear hx
          by_cases hrl : r.length = n
          · have hb0 : ((r.length : Int) != (n : Int)) = false := by simp [hrl]
            have HRL := hide hrl
            have HI := hide hi
            clear hrl hi
            go_wp2
            clear hb0
            go_loop [31] (fun i => ∃ k : Nat, k ≤ r.length ∧ i = .int .i64 k ∧ Hid ((∀ x ∈ r.take k, 0 ≤ x ∧ x ≤ 1000) ∧ (a < k → at2 rows a a = 0) ∧ ∀ q, q < k → q < a → at2 rows a q = at2 rows q a)) (fun i => r.length - (intOf i).toNat)
            case atStart => exact ⟨0, Nat.zero_le _, rfl, hide ⟨by simp, fun h => absurd h (Nat.not_lt_zero _), fun q hq => absurd hq (Nat.not_lt_zero _)⟩⟩
            case round =>
              obtain ⟨q, hq, rfl, HU⟩ := hrel
              by_cases hlt3 : q < r.length
              · obtain ⟨b1, o1, x, rfl, hb1, hx1, wx, hc1⟩ := HI.out.get hlt3
                have HX1 := hide hx1
                have HG1 := hide (at2_get HX.out hx1)
                have hqn : q < n := by have := HRL.out; omega
                clear hx1
                by_cases hin : 0 ≤ x ∧ x ≤ 1000
                · rcases Nat.lt_trichotomy a q with e | e | e
                  · have hb1 : ((a : Int) == (q : Int)) = false := by simp; omega
                    have hb2 : decide ((q : Int) < (a : Int)) = false := by simp; omega
                    go_wp2_with (go_at_call 67; refine (l01In_any _ _ _ _).mono ?_; rintro e w' ⟨rfl, rfl⟩)
                    go_round
                    case rel =>
                      refine ⟨q + 1, by omega, by go_num, hide ⟨?_, fun _ => HU.out.2.1 e, fun q' hq' hqa => ?_⟩⟩
                      · rw [take_snoc_of HX1.out]
                        intro z hz
                        rcases List.mem_append.1 hz with hz | hz
                        · exact HU.out.1 z hz
                        · obtain rfl : z = x := by simpa using hz
                          exact hin
                      · exact HU.out.2.2 q' (by omega) hqa
                    case measure => (simp [intOf] <;> omega)
                  · subst e
                    have hb1 : ((a : Int) == (a : Int)) = true := by simp
                    have hb2 : decide ((a : Int) < (a : Int)) = false := by simp
                    by_cases hx0 : x = 0
                    · subst hx0
                      go_wp2_with (go_at_call 67; refine (l01In_any _ _ _ _).mono ?_; rintro e w' ⟨rfl, rfl⟩)
                      go_round
                      case rel =>
                        refine ⟨a + 1, by omega, by go_num, hide ⟨?_, fun _ => HG1.out, fun q' hq' hqa => ?_⟩⟩
                        · rw [take_snoc_of HX1.out]
                          intro z hz
                          rcases List.mem_append.1 hz with hz | hz
                          · exact HU.out.1 z hz
                          · obtain rfl : z = 0 := by simpa using hz
                            exact hin
                        · exact HU.out.2.2 q' (by omega) hqa
                      case measure => (simp [intOf] <;> omega)
                    · have hxb : (x != 0) = true := by simpa using hx0
                      have HN := hide (show ¬ distOk (n : Int) rows from fun hd => hx0 (by rw [← HG1.out]; exact (hd.2.2.2 a (by have := HL.out; omega)).1))
                      clear hx0
                      go_wp2_with (go_at_call 67; refine (l01In_any _ _ _ _).mono ?_; rintro e w' ⟨rfl, rfl⟩)
                      go_ret
                      exact ⟨ret_bool (by symm; rw [decide_eq_false_iff_not]; exact HN.out), rfl⟩
                  · have hb1 : ((a : Int) == (q : Int)) = false := by simp; omega
                    have hb2 : decide ((q : Int) < (a : Int)) = true := by simp; omega
                    obtain ⟨b2, off2, B2, d2, r2, e2, hb2', hx2, hc2, hi2⟩ := h.get hqn
                    cases e2
                    have hrk2 := (HV.out.1 r2 (mem_take_of hx2 e)).1
                    have hrl2 : r2.length = n := by omega
                    obtain ⟨b3, o3, y, rfl, hb3, hx3, wy, hc3⟩ := hi2.get (k := a) (by omega)
                    have HG2 := hide (at2_get hx2 hx3)
                    clear hx2 hx3 hi2 hrk2
                    by_cases hyx : x = y
                    · subst hyx
                      have hyb : (x != x) = false := by simp
                      go_wp2_with (go_at_call 67; refine (l01In_any _ _ _ _).mono ?_; rintro e w' ⟨rfl, rfl⟩)
                      go_round
                      case rel =>
                        refine ⟨q + 1, by omega, by go_num, hide ⟨?_, fun h => absurd h (by omega), fun q' hq' hqa => ?_⟩⟩
                        · rw [take_snoc_of HX1.out]
                          intro z hz
                          rcases List.mem_append.1 hz with hz | hz
                          · exact HU.out.1 z hz
                          · obtain rfl : z = x := by simpa using hz
                            exact hin
                        · by_cases e : q' = q
                          · subst e; rw [HG1.out, HG2.out]
                          · exact HU.out.2.2 q' (by omega) hqa
                      case measure => (simp [intOf] <;> omega)
                    · have hyb : (x != y) = true := by simpa using hyx
                      have HN := hide (show ¬ distOk (n : Int) rows from fun hd => hyx (by rw [← HG1.out, ← HG2.out]; exact dist_sym hd (by have := HL.out; omega) (by have := HL.out; omega)))
                      clear hyx
                      go_wp2_with (go_at_call 67; refine (l01In_any _ _ _ _).mono ?_; rintro e w' ⟨rfl, rfl⟩)
                      go_ret
                      exact ⟨ret_bool (by symm; rw [decide_eq_false_iff_not]; exact HN.out), rfl⟩
                · have HN := hide (show ¬ distOk (n : Int) rows from fun hd => hin ((hd.2.2.1 r (List.mem_of_getElem? HX.out)).2 x (List.mem_of_getElem? HX1.out)))
                  go_wp2_with (go_at_call 67; refine (l01In_any _ _ _ _).mono ?_; rw [decide_eq_false hin]; rintro e w' ⟨rfl, rfl⟩)
                  go_ret
                  exact ⟨ret_bool (by symm; rw [decide_eq_false_iff_not]; exact HN.out), rfl⟩
              · have hqe : q = r.length := by omega
                have HQ := hide hqe
                clear hqe
                go_wp2
                go_round
                case rel =>
                  refine ⟨a + 1, by omega, by go_num, hide ⟨?_, fun a' ha' => ?_⟩⟩
                  · rw [take_snoc_of HX.out]
                    intro z hz
                    rcases List.mem_append.1 hz with hz | hz
                    · exact HV.out.1 z hz
                    · obtain rfl : z = r := by simpa using hz
                      exact ⟨by rw [HRL.out], by have hu := HU.out.1; rw [HQ.out, List.take_length] at hu; exact hu⟩
                  · by_cases e : a' = a
                    · subst e
                      have := HQ.out
                      have := HRL.out
                      exact ⟨HU.out.2.1 (by omega), fun b hb => HU.out.2.2 b (by omega) hb⟩
                    · exact HV.out.2 a' (by omega)
                case measure => (simp [intOf] <;> omega)
          · have hb0 : ((r.length : Int) != (n : Int)) = true := by rw [bne_iff_ne]; omega
            have HN := hide (show ¬ distOk (n : Int) rows from fun hd => hrl (by have := (hd.2.2.1 r (List.mem_of_getElem? HX.out)).1; omega))
            clear hrl
            go_wp2
            go_ret
            exact ⟨ret_bool (by symm; rw [decide_eq_false_iff_not]; exact HN.out), rfl⟩
        · have hke : a = n := by omega
          subst hke
          go_wp2
          go_ret
          exact ⟨ret_bool (by symm; rw [decide_eq_true_eq]; have hv := HV.out; rw [take_len HL.out] at hv; exact ⟨HC.out, by rw [HL.out], hv.1, fun k hk => hv.2 k (by have := HL.out; omega)⟩), rfl⟩
    · have hne : ((n : Int) != (k : Int)) = true := by rw [bne_iff_ne]; omega
      go_enter Try.func66, Try.ntmps66
      go_wp2_with (go_at_call 109; refine (l16Size_any _ _).mono ?_; rw [decide_eq_true HC.out]; rintro e w' ⟨rfl, rfl⟩)
      go_ret
      exact ⟨ret_bool (by symm; rw [decide_eq_false_iff_not]; intro hd; have := hd.2.1; have := HL.out; omega), rfl⟩
  · have HC := hide hcl; clear hcl
    go_enter Try.func66, Try.ntmps66
    go_wp2_with (go_at_call 109; refine (l16Size_any _ _).mono ?_; rw [decide_eq_false HC.out]; rintro e w' ⟨rfl, rfl⟩)
    go_ret
    exact ⟨ret_bool (by symm; rw [decide_eq_false_iff_not]; exact fun hd => HC.out hd.1), rfl⟩

end Go.Proofs.Ytafhcnnbiheofaa
