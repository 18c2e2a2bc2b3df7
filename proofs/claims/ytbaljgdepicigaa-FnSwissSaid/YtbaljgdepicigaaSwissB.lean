/-
  Contracts of the functions on Swiss rounds: who has met whom.
-/
import Derived.Laws.ShiftsVar
import Derived.Test.YtbaljgdepicigaaBase
import Derived.Test.YtbaljgdepicigaaMathA
import Derived.Test.YtbaljgdepicigaaMathD
import Derived.Test.YtbaljgdepicigaaLib
import Derived.Test.YtbaljgdepicigaaAid
import Derived.Test.YtbaljgdepicigaaGrid
import Derived.Test.YtbaljgdepicigaaLibF
import Derived.Test.YtbaljgdepicigaaMathS
import Derived.Test.YtbaljgdepicigaaSwiss
namespace Go.Proofs.Ytbaljgdepicigaa
open Go.RowKit
set_option linter.unusedVariables false

-- impl.SwissOk
theorem iSwissOk_any (A : Option Addr) (n c : Nat) (xs : List Int) (A2 : Option Addr) (n2 c2 : Nat) (ms : List Int) (w : World) (h : Ints w A n c xs) (h2 : Ints w A2 n2 c2 ms) :
    Calls Try.prog 18 #[.slice A n c, .slice A2 n2 c2] w fun e w' => e = .returned (.bool (decide (swissOk xs ms))) ∧ Ext w w' := by
  have HL := hide h.len
  have HL2 := hide h2.len
  have HI := hide h
  have HI2 := hide h2
  have hle := h2.le
  have hmx := h2.max
  have hle1 := h.le
  have hmx1 := h.max
  clear h
  by_cases hs : isSwiss xs
  · have h8 : n ≤ 8 := by have := HL.out; have := hs.1; omega
    have HS := hide hs; clear hs
    by_cases hnn : n2 = n
    · subst hnn
      by_cases hall : ∀ m ∈ ms, 0 ≤ m ∧ m ≤ 2 ^ n2 - 1
      · have HA := hide hall; clear hall
        obtain ⟨hp1, hp2⟩ := wrap_pow h8
        go_enter Try.func18, Try.ntmps18
        go_wp2_with (first | (go_at_call 86; refine (iisSwiss_any _ _ _ xs _ HI.out).mono ?_; rw [decide_eq_true HS.out]; rintro e w1 ⟨rfl, hE1⟩) | (go_at_call 88; refine (allWithin_any _ _ _ ms _ _ _ (HI2.out.ext hE1)).mono ?_; rw [decide_eq_true HA.out]; rintro e w2 ⟨rfl, hE2⟩; replace hE1 := hE1.trans hE2; clear hE2))
        have HE1 := hide hE1; clear hE1
        go_loopw [29] (fun i wr => ∃ k : Nat, k ≤ n2 ∧ i = .int .i64 k ∧ Hid (swissTo ms k) ∧ Ext w wr) (fun i _ => n2 - (intOf i).toNat)
        case atStart => exact ⟨0, Nat.zero_le _, rfl, hide (fun a ha => absurd ha (Nat.not_lt_zero _)), HE1.out⟩
        case round =>
          obtain ⟨a, ha, rfl, HV, hE⟩ := hrel
          by_cases hlt : a < n2
          · obtain ⟨b, off, m, rfl, hb, hm, wm, hc⟩ := (h2.ext hE).get hlt
            have hm0 := HA.out m (List.mem_of_getElem? hm)
            have HM := hide hm
            clear hm
            have HE := hide hE; clear hE
            have g1 : ms.getD a 0 = m := by simp [List.getD, HM.out]
            have hpw := pow_small h8
            have HB := hide (and_bit hm0.1 (by omega) a)
            by_cases hbit : bitAt m a = 1
            · have HN := hide (show ¬ swissOk xs ms from fun hs => (hs.2.2.2 a (by have := HL2.out; omega)).1 (by rw [g1]; exact hbit))
              rw [hbit] at HB
              have hbits := HB.out
              clear g1 hbit
              go_wp2
              go_ret
              exact ⟨ret_bool (by symm; rw [decide_eq_false_iff_not]; exact HN.out), HE.out⟩
            · have HNB := hide hbit
              have hb1 : (bitAt m a == 1) = false := by simpa using hbit
              have hbits := HB.out
              have G1 := hide g1
              clear g1 hbit
              generalize bitAt m a = z at hbits hb1
              go_wp2
              clear hbits hb1 HB
              obtain ⟨w0, rfl⟩ : ∃ w0 : World, w0 = wr := ⟨_, rfl⟩
              go_loopw [41] (fun j w3 => ∃ k : Nat, k ≤ n2 ∧ j = .int .i64 k ∧ Hid (∀ b, b < k → bitAt m b = bitAt (ms.getD b 0) a) ∧ Ext w0 w3) (fun j _ => n2 - (intOf j).toNat)
              case atStart => exact ⟨0, Nat.zero_le _, rfl, hide (fun k hk => absurd hk (Nat.not_lt_zero _)), Ext.refl _⟩
              case round =>
                obtain ⟨k, hk, rfl, HW, hE3⟩ := hrel
                by_cases hkl : k < n2
                · obtain ⟨b', off', y, e', hb', hy, wy, hcy⟩ := (h2.ext (HE.out.trans hE3)).get hkl
                  cases e'
                  have hy0 := HA.out y (List.mem_of_getElem? hy)
                  have hbits1 := and_bit hm0.1 (by omega) k
                  have hbits2 := and_bit hy0.1 (by omega) a
                  have HY := hide hy
                  have HE3 := hide hE3
                  clear hy hE3 hc
                  by_cases hsame : bitAt m k = bitAt y a
                  · have HS2 := hide hsame
                    rw [hsame] at hbits1
                    clear hsame
                    have hb2 : (bitAt y a != bitAt y a) = false := by simp
                    generalize bitAt y a = z at hbits1 hbits2 hb2
                    go_wp2
                    go_quiet (fail)
                    go_wp2
                    go_roundw
                    case rel =>
                      refine ⟨k + 1, by omega, by go_num, hide (fun b hb => ?_), HE3.out.drewN _⟩
                      by_cases e : b = k
                      · subst e; rw [HS2.out]; simp [List.getD, HY.out]
                      · exact HW.out b (by omega)
                    case measure => (simp [intOf] <;> omega)
                  · have HN := hide (swiss_not (xs := xs) HL2.out hlt hkl HM.out HY.out hsame)
                    have hb2 : (bitAt m k != bitAt y a) = true := by simpa using hsame
                    clear hsame
                    generalize bitAt y a = z at hbits2 hb2
                    generalize bitAt m k = z' at hbits1 hb2
                    go_wp2
                    go_quiet (fail)
                    go_wp2
                    go_ret
                    exact ⟨ret_bool (by symm; rw [decide_eq_false_iff_not]; exact HN.out), (HE.out.trans HE3.out).drewN _⟩
                · have HE3 := hide hE3
                  clear hE3 hc
                  go_wp2
                  go_roundw
                  case rel =>
                    refine ⟨a + 1, by omega, by go_num, hide (swissTo_succ HV.out (by rw [G1.out]; exact HNB.out) (fun b hb => by rw [G1.out]; exact HW.out b (by omega))), HE.out.trans HE3.out⟩
                  case measure => (simp [intOf] <;> omega)
          · have hke : a = n2 := by omega
            subst hke
            have HE := hide hE; clear hE
            go_wp2
            go_ret
            exact ⟨ret_bool (by symm; rw [decide_eq_true_eq]; exact ⟨HS.out, by rw [HL.out, HL2.out], by rw [HL2.out]; exact HA.out, by rw [HL2.out]; exact HV.out⟩), HE.out⟩
      · have HA := hide hall; clear hall
        have HN := hide (show ¬ swissOk xs ms from fun hs => HA.out (by have := hs.2.2.1; rwa [HL2.out] at this))
        obtain ⟨hp1, hp2⟩ := wrap_pow h8
        go_enter Try.func18, Try.ntmps18
        go_wp2_with (first | (go_at_call 86; refine (iisSwiss_any _ _ _ xs _ HI.out).mono ?_; rw [decide_eq_true HS.out]; rintro e w1 ⟨rfl, hE1⟩) | (go_at_call 88; refine (allWithin_any _ _ _ ms _ _ _ (HI2.out.ext hE1)).mono ?_; rw [decide_eq_false HA.out]; rintro e w2 ⟨rfl, hE2⟩; replace hE1 := hE1.trans hE2; clear hE2))
        go_ret
        exact ⟨ret_bool (by symm; rw [decide_eq_false_iff_not]; exact HN.out), hE1⟩
    · have hne : ((n2 : Int) != (n : Int)) = true := by rw [bne_iff_ne]; omega
      have HN := hide (show ¬ swissOk xs ms from fun hs => hnn (by have := hs.2.1; have := HL.out; have := HL2.out; omega))
      go_enter Try.func18, Try.ntmps18
      go_wp2_with (first | (go_at_call 86; refine (iisSwiss_any _ _ _ xs _ HI.out).mono ?_; rw [decide_eq_true HS.out]; rintro e w1 ⟨rfl, hE1⟩))
      go_ret
      exact ⟨ret_bool (by symm; rw [decide_eq_false_iff_not]; exact HN.out), hE1⟩
  · have HS := hide hs; clear hs
    have HN := hide (show ¬ swissOk xs ms from fun h => HS.out h.1)
    go_enter Try.func18, Try.ntmps18
    go_wp2_with (first | (go_at_call 86; refine (iisSwiss_any _ _ _ xs _ HI.out).mono ?_; rw [decide_eq_false HS.out]; rintro e w1 ⟨rfl, hE1⟩))
    go_ret
    exact ⟨ret_bool (by symm; rw [decide_eq_false_iff_not]; exact HN.out), hE1⟩
-- spec.SwissOk
theorem sSwissOk_any (A : Option Addr) (n c : Nat) (xs : List Int) (A2 : Option Addr) (n2 c2 : Nat) (ms : List Int) (w : World) (h : Ints w A n c xs) (h2 : Ints w A2 n2 c2 ms) :
    Calls Try.prog 97 #[.slice A n c, .slice A2 n2 c2] w fun e w' => e = .returned (.bool (decide (swissOk xs ms))) ∧ Ext w w' := by
  have HL := hide h.len
  have HL2 := hide h2.len
  have HI := hide h
  have hle := h2.le
  have hmx := h2.max
  have hle1 := h.le
  have hmx1 := h.max
  clear h
  by_cases hs : isSwiss xs
  · have h8 : n ≤ 8 := by have := HL.out; have := hs.1; omega
    have HS := hide hs; clear hs
    by_cases hnn : n2 = n
    · subst hnn
      obtain ⟨hp1, hp2⟩ := wrap_pow h8
      go_enter Try.func97, Try.ntmps97
      go_wp2_with (go_at_call 159; refine (l24Points_any _ _ _ xs _ HI.out).mono ?_; rw [decide_eq_true HS.out]; rintro e w' ⟨rfl, rfl⟩)
      go_loopw [20] (fun i wr => ∃ k : Nat, k ≤ n2 ∧ i = .int .i64 k ∧ Hid (swissTo ms k ∧ ∀ m ∈ ms.take k, 0 ≤ m ∧ m ≤ 2 ^ n2 - 1) ∧ Ext w wr) (fun i _ => n2 - (intOf i).toNat)
      case atStart => exact ⟨0, Nat.zero_le _, rfl, hide ⟨fun a ha => absurd ha (Nat.not_lt_zero _), by simp⟩, Ext.refl _⟩
      case round =>
        obtain ⟨a, ha, rfl, HV, hE⟩ := hrel
        by_cases hlt : a < n2
        · obtain ⟨b, off, m, rfl, hb, hm, wm, hc⟩ := (h2.ext hE).get hlt
          have HM := hide hm
          clear hm
          have HE := hide hE; clear hE
          have g1 : ms.getD a 0 = m := by simp [List.getD, HM.out]
          have hpw := pow_small h8
          by_cases hm0 : 0 ≤ m ∧ m ≤ 2 ^ n2 - 1
          · have HB := hide (and_bit hm0.1 (by omega) a)
            by_cases hbit : bitAt m a = 1
            · have HN := hide (show ¬ swissOk xs ms from fun hs => (hs.2.2.2 a (by have := HL2.out; omega)).1 (by rw [g1]; exact hbit))
              rw [hbit] at HB
              have hbits := HB.out
              clear g1 hbit
              go_wp2_with (go_at_call 146; refine (l01In_any _ _ _ _).mono ?_; rintro e w' ⟨rfl, rfl⟩)
              go_ret
              exact ⟨ret_bool (by symm; rw [decide_eq_false_iff_not]; exact HN.out), HE.out⟩
            · have HNB := hide hbit
              have hb1 : (bitAt m a == 1) = false := by simpa using hbit
              have hbits := HB.out
              have G1 := hide g1
              clear g1 hbit
              generalize bitAt m a = z at hbits hb1
              go_wp2_with (go_at_call 146; refine (l01In_any _ _ _ _).mono ?_; rintro e w' ⟨rfl, rfl⟩)
              clear hbits hb1 HB
              obtain ⟨w0, rfl⟩ : ∃ w0 : World, w0 = wr := ⟨_, rfl⟩
              go_loopw [7] (fun j w3 => ∃ k : Nat, k ≤ a ∧ j = .int .i64 k ∧ Hid (∀ b, b < k → bitAt m b = bitAt (ms.getD b 0) a) ∧ Ext w0 w3) (fun j _ => a - (intOf j).toNat)
              case atStart => exact ⟨0, Nat.zero_le _, rfl, hide (fun k hk => absurd hk (Nat.not_lt_zero _)), Ext.refl _⟩
              case round =>
                obtain ⟨k, hk, rfl, HW, hE3⟩ := hrel
                by_cases hkl : k < a
                · obtain ⟨b', off', y, e', hb', hy, wy, hcy⟩ := (h2.ext (HE.out.trans hE3)).get (k := k) (by omega)
                  cases e'
                  have hy0 := HV.out.2 y (mem_take_of hy hkl)
                  have hbits1 := and_bit hm0.1 (by omega) k
                  have hbits2 := and_bit hy0.1 (by omega) a
                  have HY := hide hy
                  have HE3 := hide hE3
                  have hkn : k < n2 := by omega
                  clear hy hE3 hc
                  by_cases hsame : bitAt m k = bitAt y a
                  · have HS2 := hide hsame
                    rw [hsame] at hbits1
                    clear hsame
                    have hb2 : (bitAt y a != bitAt y a) = false := by simp
                    generalize bitAt y a = z at hbits1 hbits2 hb2
                    go_wp2
                    go_quiet (fail)
                    go_wp2
                    go_roundw
                    case rel =>
                      refine ⟨k + 1, by omega, by go_num, hide (fun b hb => ?_), HE3.out.drewN _⟩
                      by_cases e : b = k
                      · subst e; rw [HS2.out]; simp [List.getD, HY.out]
                      · exact HW.out b (by omega)
                    case measure => (simp [intOf] <;> omega)
                  · have HN := hide (swiss_not (xs := xs) HL2.out hlt hkn HM.out HY.out hsame)
                    have hb2 : (bitAt m k != bitAt y a) = true := by simpa using hsame
                    clear hsame
                    generalize bitAt y a = z at hbits2 hb2
                    generalize bitAt m k = z' at hbits1 hb2
                    go_wp2
                    go_quiet (fail)
                    go_wp2
                    go_ret
                    exact ⟨ret_bool (by symm; rw [decide_eq_false_iff_not]; exact HN.out), (HE.out.trans HE3.out).drewN _⟩
                · have hka : k = a := by omega
                  have HE3 := hide hE3
                  have HKA := hide hka
                  clear hE3 hc hka
                  go_wp2
                  go_roundw
                  case rel =>
                    refine ⟨a + 1, by omega, by go_num, hide ⟨swissTo_succ HV.out.1 (by rw [G1.out]; exact HNB.out) (fun b hb => by rw [G1.out]; exact HW.out b (by have := HKA.out; omega)), ?_⟩, HE.out.trans HE3.out⟩
                    rw [take_snoc_of HM.out]
                    intro z hz
                    rcases List.mem_append.1 hz with hz | hz
                    · exact HV.out.2 z hz
                    · obtain rfl : z = m := by simpa using hz
                      exact hm0
                  case measure => (simp [intOf] <;> omega)
          · have HN := hide (show ¬ swissOk xs ms from fun hs => hm0 (by have := hs.2.2.1 m (List.mem_of_getElem? HM.out); rwa [HL2.out] at this))
            go_wp2_with (go_at_call 146; refine (l01In_any _ _ _ _).mono ?_; rw [decide_eq_false hm0]; rintro e w' ⟨rfl, rfl⟩)
            go_ret
            exact ⟨ret_bool (by symm; rw [decide_eq_false_iff_not]; exact HN.out), HE.out⟩
        · have hke : a = n2 := by omega
          subst hke
          have HE := hide hE; clear hE
          go_wp2
          go_ret
          exact ⟨ret_bool (by symm; rw [decide_eq_true_eq]; exact ⟨HS.out, by rw [HL.out, HL2.out], by have hv := HV.out.2; rw [take_len HL2.out] at hv; rw [HL2.out]; exact hv, by rw [HL2.out]; exact HV.out.1⟩), HE.out⟩
    · have hne : ((n2 : Int) != (n : Int)) = true := by rw [bne_iff_ne]; omega
      have HN := hide (show ¬ swissOk xs ms from fun hs => hnn (by have := hs.2.1; have := HL.out; have := HL2.out; omega))
      go_enter Try.func97, Try.ntmps97
      go_wp2_with (go_at_call 159; refine (l24Points_any _ _ _ xs _ HI.out).mono ?_; rw [decide_eq_true HS.out]; rintro e w' ⟨rfl, rfl⟩)
      go_ret
      exact ⟨ret_bool (by symm; rw [decide_eq_false_iff_not]; exact HN.out), Ext.refl _⟩
  · have HS := hide hs; clear hs
    have HN := hide (show ¬ swissOk xs ms from fun h => HS.out h.1)
    go_enter Try.func97, Try.ntmps97
    go_wp2_with (go_at_call 159; refine (l24Points_any _ _ _ xs _ HI.out).mono ?_; rw [decide_eq_false HS.out]; rintro e w' ⟨rfl, rfl⟩)
    go_ret
    exact ⟨ret_bool (by symm; rw [decide_eq_false_iff_not]; exact HN.out), Ext.refl _⟩
-- impl.IsPairing
theorem iIsPairing_any (A : Option Addr) (n c : Nat) (xs : List Int) (A2 : Option Addr) (n2 c2 : Nat) (ms : List Int) (A3 : Option Addr) (n3 c3 : Nat) (ps : List Int) (w : World) (h : Ints w A n c xs) (h2 : Ints w A2 n2 c2 ms) (h3 : Ints w A3 n3 c3 ps) :
    Calls Try.prog 19 #[.slice A n c, .slice A2 n2 c2, .slice A3 n3 c3] w fun e w' => e = .returned (.bool (decide (isPairing xs ms ps))) ∧ Ext w w' := by
  have HL := hide h.len
  have HL2 := hide h2.len
  have HL3 := hide h3.len
  have HI := hide h
  have HI2 := hide h2
  have HI3 := hide h3
  have hle := h3.le
  have hmx := h3.max
  have hle1 := h.le
  have hmx1 := h.max
  clear h
  by_cases hs : swissOk xs ms
  · have h8 : n ≤ 8 := by have := HL.out; have := hs.1.1; omega
    have hn2 : n2 = n := by have := HL.out; have := HL2.out; have := hs.2.1; omega
    subst hn2
    have HS := hide hs; clear hs
    by_cases hp : pairsOk n2 ps
    · have hn3 : n3 = n2 := by have := HL3.out; have := hp.1; omega
      subst hn3
      have HP := hide hp; clear hp
      go_enter Try.func19, Try.ntmps19
      go_wp2_with (first | (go_at_call 18; refine (iSwissOk_any _ _ _ xs _ _ _ ms _ HI.out HI2.out).mono ?_; rw [decide_eq_true HS.out]; rintro e w1 ⟨rfl, hE1⟩) | (go_at_call 89; refine (iPairs_any _ _ _ ps _ _ (HI3.out.ext hE1) (by omega)).mono ?_; rw [decide_eq_true HP.out]; rintro e w2 ⟨rfl, hE2⟩; replace hE1 := hE1.trans hE2; clear hE2))
      have HE1 := hide hE1; clear hE1
      go_loop [22] (fun i => ∃ k : Nat, k ≤ n3 ∧ i = .int .i64 k ∧ Hid (∀ a, a < k → ¬ bitAt (ms.getD a 0) (ps.getD a 0).toNat = 1)) (fun i => n3 - (intOf i).toNat)
      case atStart => exact ⟨0, Nat.zero_le _, rfl, hide (fun a ha => absurd ha (Nat.not_lt_zero _))⟩
      case round =>
        obtain ⟨a, ha, rfl, HV⟩ := hrel
        by_cases hlt : a < n3
        · obtain ⟨b, off, j', rfl, hb, hj', wj, hc⟩ := (h3.ext HE1.out).get hlt
          have hin := pairsOk_all HP.out j' (List.mem_of_getElem? hj')
          obtain ⟨j, rfl⟩ : ∃ j : Nat, j' = (j : Int) := ⟨j'.toNat, by omega⟩
          obtain ⟨b1, o1, m, rfl, hb1, hm, wm, hcm⟩ := (h2.ext HE1.out).get hlt
          have hm0 := HS.out.2.2.1 m (List.mem_of_getElem? hm)
          rw [HL2.out] at hm0
          have hpw := pow_small h8
          have HB := hide (and_bit hm0.1 (by omega) j)
          have HG := hide (show ms.getD a 0 = m ∧ (ps.getD a 0).toNat = j by simp [List.getD, hm, hj'])
          clear hm hj'
          by_cases hbit : bitAt m j = 1
          · have HN := hide (show ¬ isPairing xs ms ps from fun hh => hh.2.2 a (by have := HL3.out; omega) (by rw [HG.out.1, HG.out.2]; exact hbit))
            rw [hbit] at HB
            have hbits := HB.out
            clear hbit
            go_wp2
            go_ret
            exact ⟨ret_bool (by symm; rw [decide_eq_false_iff_not]; exact HN.out), HE1.out⟩
          · have HNB := hide hbit
            have hb2 : (bitAt m j == 1) = false := by simpa using hbit
            have hbits := HB.out
            clear hbit
            generalize bitAt m j = z at hbits hb2
            go_wp2
            go_round
            case rel =>
              refine ⟨a + 1, by omega, by go_num, hide (fun a' ha' => ?_)⟩
              by_cases e : a' = a
              · subst e; rw [HG.out.1, HG.out.2]; exact HNB.out
              · exact HV.out a' (by omega)
            case measure => (simp [intOf] <;> omega)
        · have hke : a = n3 := by omega
          subst hke
          go_wp2
          go_ret
          exact ⟨ret_bool (by symm; rw [decide_eq_true_eq]; exact ⟨HS.out, by rw [HL.out]; exact HP.out, by rw [HL3.out]; exact HV.out⟩), HE1.out⟩
    · have HP := hide hp; clear hp
      go_enter Try.func19, Try.ntmps19
      go_wp2_with (first | (go_at_call 18; refine (iSwissOk_any _ _ _ xs _ _ _ ms _ HI.out HI2.out).mono ?_; rw [decide_eq_true HS.out]; rintro e w1 ⟨rfl, hE1⟩) | (go_at_call 89; refine (iPairs_any _ _ _ ps _ _ (HI3.out.ext hE1) (by omega)).mono ?_; rw [decide_eq_false HP.out]; rintro e w2 ⟨rfl, hE2⟩; replace hE1 := hE1.trans hE2; clear hE2))
      go_ret
      exact ⟨ret_bool (by symm; rw [decide_eq_false_iff_not]; exact fun hh => HP.out (by have := hh.2.1; rwa [HL.out] at this)), hE1⟩
  · have HS := hide hs; clear hs
    go_enter Try.func19, Try.ntmps19
    go_wp2_with (first | (go_at_call 18; refine (iSwissOk_any _ _ _ xs _ _ _ ms _ HI.out HI2.out).mono ?_; rw [decide_eq_false HS.out]; rintro e w1 ⟨rfl, hE1⟩))
    go_ret
    exact ⟨ret_bool (by symm; rw [decide_eq_false_iff_not]; exact fun hh => HS.out hh.1), hE1⟩

end Go.Proofs.Ytbaljgdepicigaa
